/- Trees out of values; literals, makes, appends. append. Stores; parts of a tuple; structs. -/
import Derived.Great.BuildSlice
import Derived.Laws.AppendOwn
import Derived.Laws.MakeOwn
import Derived.Test.YtdpcnjlmodogbaaGreatEvC
set_option linter.unusedVariables false
set_option linter.unusedSimpArgs false
namespace Go.Ev
open Go
set_option linter.unusedVariables false
set_option linter.unusedSimpArgs false
variable {P : Program} {G : Gh} {s : St} {a : Act} {w : World} {o : Oper}
variable {d : Option Nat} {ty : TypeId} {pos : String} {af : Array Edge} {gd : Option (Nat × Bool)}

def Gh.ice (G : Gh) (g n : Nat) (cs : Array Value) : Gh := { G with S := fun k j => if k = g ∧ j < n then cs[j]? else G.S k j }
/-- a state told anew: the tmps as they were, nothing of its own turned -/
structure Still (G : Gh) (s : St) (w : World) (G' : Gh) (s' : St) : Prop where
  fr : Fr s.lv G w G' w
  le : Le G G'
  ω : G'.ω = G.ω
  lv : s'.lv = s.lv
  t : s'.t = s.t
  n : s'.n = s.n
  own : ∀ k c j, G.ω k = some (.rs c j) → ∀ i, G'.S k i = G.S k i
theorem Still.refl : Still G s w G s := ⟨Fr.refl _ _ _, Le.refl _, rfl, rfl, rfl, rfl, fun _ _ _ _ _ => rfl⟩
theorem Still.trans {G1 G2 : Gh} {s1 s2 : St} (h : Still G s w G1 s1) (k : Still G1 s1 w G2 s2) : Still G s w G2 s2 :=
  ⟨h.fr.trans (by have := k.fr; rw [h.lv] at this; exact this), ⟨fun g j c e => k.le.S _ _ _ (h.le.S _ _ _ e), fun l t g e => k.le.β _ _ _ (h.le.β _ _ _ e)⟩, k.ω.trans h.ω, k.lv.trans h.lv, k.t.trans h.t, k.n.trans h.n,
    fun g c j e i => (k.own g c j (by rw [h.ω]; exact e) i).trans (h.own g c j e i)⟩
theorem Rel.frz (h : Rel G s a w) (v : V) : ∃ G', Rel G' (s.frz v) a w ∧ Still G s w G' (s.frz v) := by
  unfold St.frz
  split
  · rename_i lv t n
    split
    · rename_i sz l ho
      obtain ⟨g, hg, hω, en, ety, hb, hl, hs, hT, hS⟩ := h.obj lv t _ ho
      have hS' : ∀ j, G.S g j = none := hS
      have hle : Le G (G.ice g (l.length * sz) en) := ⟨fun k j c hc => by
        show (if k = g ∧ j < _ then _ else _) = _
        rw [if_neg (by rintro ⟨rfl, _⟩; rw [hS' j] at hc; cases hc)]; exact hc, fun _ _ _ e => e⟩
      have hoth : ∀ k, k ≠ g → ∀ j, (G.ice g (l.length * sz) en).S k j = G.S k j := fun k hk j => by
        show (if k = g ∧ j < _ then _ else _) = _
        rw [if_neg (fun e => hk e.1)]
      refine ⟨G.ice g (l.length * sz) en, h.setOb ho hg hω hle rfl (fun k p hk _ _ hpk => ⟨rfl, hoth k hk, hpk⟩) (fun k j c hc => ?_) h.lim hω ⟨en, ety, hb, hl, hs, fun i j hi hj => hle.tr (hT i j hi hj), ?_⟩,
        ⟨⟨rfl, rfl, rfl, Nat.le_refl _, fun k hk hm => ⟨rfl, rfl, hoth k (by rintro rfl; exact hm _ hω trivial)⟩, hle.S, fun _ _ _ => rfl⟩, hle, rfl, setOb_lv _ _ _, setOb_t _ _ _, setOb_n _ _ _, fun k c j e => hoth k (by rintro rfl; rw [hω] at e; cases e)⟩⟩
      · have hc' : (if k = g ∧ j < l.length * sz then en[j]? else G.S k j) = some c := hc
        split at hc'
        · rename_i hk; obtain ⟨rfl, _⟩ := hk; simp only [World.cell?, hb]; exact hc'
        · exact h.imm _ _ _ hc'
      · show ∀ j, j < l.length * sz → (if g = g ∧ j < l.length * sz then en[j]? else G.S g j) = some (en.getD j Go.undef)
        intro j hj
        rw [if_pos ⟨rfl, hj⟩, Array.getElem?_eq_getElem (by omega), getD_array_of (by omega)]
    · exact ⟨G, h, Still.refl⟩
  · exact ⟨G, h, Still.refl⟩
theorem Tr.vview {S β} {v : V} {x : Value} (h : Tr S β v x) : Tr S β v.view x := by
  have : v.view = v := by
    cases v
    case agg l =>
      obtain ⟨cs, _, hl, hT⟩ := h.agg_inv
      simp only [V.view, V.agg.injEq]
      refine List.ext_getElem (by simp) fun i h1 h2 => ?_
      have h3 := hT i h2
      simp only [List.getD_eq_getElem?_getD, List.getElem?_eq_getElem h2, Option.getD_some] at h3
      rw [List.getElem_map]
      generalize l[i] = y at h3
      cases y <;> try rfl
      · rename_i own sz m
        cases own
        · rfl
        · cases h3
      · cases h3
    case uq => cases h
    case slc own sz l =>
      cases own
      · rfl
      · cases h
    case tup l => cases h
    all_goals rfl
  rw [this]; exact h
theorem tree_tr (h : Rel G s a w) {v u : V} {x : Value} (hv : Tr G.S G.β v x) (ht : tree s v = some u) : Tr G.S G.β u x ∧ u.flat.all pureC = true ∧ u ≠ .undef ∧ ∀ l, u ≠ .tup l := by
  unfold tree at ht
  split at ht
  · rename_i lv t n
    split at ht
    · rename_i sz l ho
      split at ht
      · rename_i hn
        obtain rfl := Option.some.inj ht
        obtain ⟨g, hg, hω, en, ety, hb, hl, hs, hT, hS⟩ := h.obj lv t _ ho
        obtain ⟨g', cap, hg', hc, hx⟩ := hv.aref_inv
        obtain rfl : g' = g := by rw [hg] at hg'; exact (Option.some.inj hg').symm
        subst hn
        have hS' : ∀ j, j < l.length * sz → G.S g' j = some (en.getD j Go.undef) := hS
        refine ⟨?_, rfl, (by intro e; cases e), fun l e => by cases e⟩
        rw [hx]
        exact Tr.slc sz l g' 0 cap (fun i j => en.getD (i * sz + j) Go.undef) hc hs (fun i j hi hj => by rw [Nat.zero_add]; exact hS' _ (cell_lt hi hj)) hT
      · cases ht
    · cases ht
  · rename_i l
    split at ht
    · rename_i hp
      obtain rfl := Option.some.inj ht
      exact ⟨hv.vview, hp, (by intro e; cases e), fun l e => by cases e⟩
    · cases ht
  · rename_i hna hng
    split at ht
    · rename_i hp
      obtain rfl := Option.some.inj ht
      have hview : v.view = v.viewC := by
        cases v <;> first | rfl | (cases hv; done) | exact absurd rfl (hng _)
      have hfl : v.viewC.flat = [v.viewC] := by
        cases v <;> first | rfl | exact absurd rfl (hng _)
      refine ⟨hview ▸ hv.vview, by rw [hfl]; simpa using hp, ?_, fun l e => ?_⟩
      · intro e; rw [e] at hp; cases hp
      · rw [e] at hp; cases hp
    · cases ht
theorem Rel.tree (h : Rel G s a w) {ty : TypeId} {x : Operand} {v : V} {s1 : St} (ht : s.tree P ty x = some (v, s1)) : ∃ G', Rel G' s1 a w ∧ Still G s w G' s1 ∧ Tr G'.S G'.β v (a.eval x) ∧ v.flat.all pureC = true ∧ v ≠ .undef ∧ ∀ l, v ≠ .tup l := by
  unfold St.tree at ht
  obtain ⟨u, hu, he⟩ := Option.map_eq_some_iff.1 ht
  obtain ⟨rfl, rfl⟩ := Prod.mk.inj he
  obtain ⟨G', h1, h2⟩ := h.frz (s.see P ty x)
  obtain ⟨k1, k2, k3, k4⟩ := tree_tr h1 (h2.le.tr (h.see P ty x)) hu
  exact ⟨G', h1, h2, k1, k2, k3, k4⟩
theorem Rel.trees (P : Program) : ∀ (xs : List (TypeId × Operand)) {G : Gh} {s s1 : St} {vs : List V}, Rel G s a w → St.trees P s xs = some (vs, s1) →
    ∃ G', Rel G' s1 a w ∧ Still G s w G' s1 ∧ vs.length = xs.length ∧ ∀ i, i < vs.length → Tr G'.S G'.β (vs.getD i .undef) ((xs.map fun x => a.eval x.2).getD i Go.undef) ∧ (vs.getD i .undef).flat.all pureC = true ∧ vs.getD i .undef ≠ .undef ∧ ∀ l, vs.getD i .undef ≠ .tup l := by
  intro xs
  induction xs with
  | nil =>
    intro G s s1 vs h ht
    simp only [St.trees, Option.some.injEq, Prod.mk.injEq] at ht
    obtain ⟨rfl, rfl⟩ := ht
    exact ⟨G, h, Still.refl, rfl, fun i hi => absurd hi (Nat.not_lt_zero _)⟩
  | cons x xs ih =>
    intro G s s1 vs h ht
    obtain ⟨ty, x⟩ := x
    simp only [St.trees] at ht
    split at ht
    · rename_i v s2 hv
      split at ht
      · rename_i vs' s3 hvs
        simp only [Option.some.injEq, Prod.mk.injEq] at ht
        obtain ⟨rfl, rfl⟩ := ht
        obtain ⟨G1, h1, h2, h3, h4, h5, h6⟩ := h.tree hv
        obtain ⟨G2, k1, k2, k3, k4⟩ := ih h1 hvs
        refine ⟨G2, k1, h2.trans k2, by simp [k3], fun i hi => ?_⟩
        cases i with
        | zero => exact ⟨k2.le.tr h3, h4, h5, h6⟩
        | succ i => exact k4 i (by simpa using hi)
      · cases ht
    · cases ht
/-! ### literals -/
theorem Tr.viewC_eq {S β} {v : V} {x : Value} (h : Tr S β v x) : v.viewC = v := by
  cases v <;> try rfl
  · rename_i own sz m
    cases own
    · rfl
    · cases h
  · cases h
theorem tr_cells {v : V} {x : Value} (h : Tr G.S G.β v x) (hu : v ≠ .undef) : v.flat.length = x.cells.size ∧ ∀ j, j < v.flat.length → Tr G.S G.β (v.flat.getD j .undef) (x.cells.getD j Go.undef) := by
  have ht : ∀ l, v ≠ .tup l := by rintro l rfl; cases h
  obtain ⟨h1, h2⟩ := (OwnV.of_tr' (w := default) (p := fun _ => .rs 0 0) h).cells hu ht
  refine ⟨h1, fun j hj => ?_⟩
  have h3 := h2 j hj
  have h4 : v.flat.getD j .undef = (v.flat.getD j .undef).viewC := by
    rcases flat_agg_or v with ⟨l, rfl⟩ | ⟨hna, hf⟩
    · obtain ⟨cs, _, hl, hT⟩ := h.agg_inv
      exact (hT j hj).viewC_eq.symm
    · rw [hf]
      have : j = 0 := by rw [hf] at hj; simpa using hj
      subst this
      exact h.viewC_eq.symm
  rw [h4]
  exact h3.view
theorem inOrder_zip (f : Operand → Value) : ∀ (l : List (Nat × Operand)) (k : Nat), inOrder k l = true → l.map (fun p => (p.1, f p.2)) = ((l.map fun p => f p.2).zipIdx k).map fun x => (x.2, x.1) := by
  intro l
  induction l with
  | nil => intro k _; rfl
  | cons p l ih =>
    intro k h
    simp only [inOrder] at h
    split at h
    · rename_i hp
      simp only [List.map_cons, List.zipIdx_cons]
      rw [ih (k + 1) h, hp]
    · cases h
/-- trees side by side -/
theorem laid_of {sz : Nat} (hz : 0 < sz) {vs : List V} {xs : List Value} (hl : vs.length = xs.length) (hT : ∀ i, i < vs.length → Tr G.S G.β (vs.getD i .undef) (xs.getD i Go.undef) ∧ (vs.getD i .undef).flat.all pureC = true ∧ vs.getD i .undef ≠ .undef)
    (hf : ∀ v ∈ vs, v.flat.length = sz) : Laid G sz vs (xs.flatMap fun v => v.cells.toList).toArray ∧ (∀ x ∈ xs, x.cells.size = sz) ∧ (xs.flatMap fun v => v.cells.toList).length = vs.length * sz := by
  have hsz : ∀ x ∈ xs, x.cells.size = sz := by
    intro x hx
    obtain ⟨i, hi, rfl⟩ := List.getElem_of_mem hx
    obtain ⟨h1, h2, h3⟩ := hT i (by omega)
    have h4 := (tr_cells h1 h3).1
    rw [List.getD_eq_getElem?_getD, List.getElem?_eq_getElem (by omega), Option.getD_some] at h4
    rw [List.getD_eq_getElem?_getD, List.getElem?_eq_getElem hi, Option.getD_some] at h4
    rw [← h4]
    exact hf _ (List.getElem_mem _)
  have hlen : ∀ (ys : List Value), (∀ x ∈ ys, x.cells.size = sz) → (ys.flatMap fun v => v.cells.toList).length = ys.length * sz := by
    intro ys
    induction ys with
    | nil => intro _; simp
    | cons y ys ih =>
      intro h
      rw [List.flatMap_cons, List.length_append, ih (fun x hx => h x (List.mem_cons_of_mem _ hx)), List.length_cons, Nat.succ_mul, Array.length_toList, h y List.mem_cons_self, Nat.add_comm]
  refine ⟨⟨by rw [List.size_toArray, hlen xs hsz, hl]; exact Nat.le_refl _, fun v hv => ⟨hf v hv, ?_⟩, fun i j hi hj => ?_⟩, hsz, by rw [hlen xs hsz, hl]⟩
  · obtain ⟨i, hi, rfl⟩ := List.getElem_of_mem hv
    have := (hT i hi).2.1
    rwa [List.getD_eq_getElem?_getD, List.getElem?_eq_getElem hi, Option.getD_some] at this
  · obtain ⟨h1, h2, h3⟩ := hT i hi
    obtain ⟨h4, h5⟩ := tr_cells h1 h3
    have hi' : i < xs.length := by omega
    have e1 : xs.getD i Go.undef = xs[i] := by rw [List.getD_eq_getElem?_getD, List.getElem?_eq_getElem hi', Option.getD_some]
    rw [e1] at h5 h4
    have hj' : j < (vs.getD i .undef).flat.length := by rw [h4, hsz _ (List.getElem_mem _)]; exact hj
    have h6 := h5 j hj'
    have h7 : (xs.flatMap fun v => v.cells.toList).toArray.getD (i * sz + j) Go.undef = xs[i].cells.getD j Go.undef := by
      have hg := Great.flat_get hz xs hsz (i * sz + j)
      have d1 : (i * sz + j) / sz = i := by rw [Nat.mul_comm, Nat.mul_add_div hz, Nat.div_eq_of_lt hj, Nat.add_zero]
      have d2 : (i * sz + j) % sz = j := by rw [Nat.mul_comm, Nat.mul_add_mod, Nat.mod_eq_of_lt hj]
      rw [d1, d2, List.getElem?_eq_getElem hi', Option.bind_some] at hg
      rw [Array.getD_eq_getD_getElem?, Array.getD_eq_getD_getElem?, ← hg]
      simp
    rw [h7]
    exact h6
theorem buildSlice_run {t e : TypeId} {n : Nat} {ps : Array (Nat × Operand)} {z : List V} (hu : P.underlying t = some (.slice e)) (hz : szOf P e ≠ 0) (hzero : zero P e = some z) (ho : inOrder 0 ps.toList = true) (hn : ps.size = n) (hsm : n * szOf P e ≤ 16777216)
    (hc : ∀ x ∈ ps.toList.map fun p => a.eval p.2, x.cells.size = szOf P e) (w : World) :
    (Instr.buildSlice t n (ps.map fun (i, x) => (i, a.eval x))).run P w = .ok (.slice (some ⟨w.heap.size, 0, none⟩) n n) (w.alloc (.cells ((ps.toList.map fun p => a.eval p.2).flatMap fun v => v.cells.toList).toArray e)) := by
  obtain ⟨i, d, h1, h2, h3, h4⟩ := szOf_ne hz
  have hparts : (ps.map fun (i, x) => (i, a.eval x)).toList = ((ps.toList.map fun p => a.eval p.2).zipIdx 0).map fun x => (x.2, x.1) := by
    rw [Array.toList_map]
    exact inOrder_zip a.eval ps.toList 0 ho
  obtain ⟨zi, hzi⟩ : ∃ zv, i.zero = some zv := by
    unfold zero at hzero
    cases hh : i.zero with
    | none => simp [h1, hh] at hzero
    | some zv => exact ⟨zv, rfl⟩
  by_cases hp : n * i.size = 0
  · have hn0 : n = 0 := by
      rcases Nat.mul_eq_zero.1 hp with h | h
      · exact h
      · omega
    have : ps = #[] := by
      apply Array.eq_empty_of_size_eq_zero
      omega
    subst this
    subst hn0
    simp [Instr.buildSlice, run_underlying hu, sizeOf, typeInfo, h1, Instr.fill, Go.newRow]
    rw [show Array.map (fun x => (default : Value)) (Array.range 0) = #[] from Array.eq_empty_of_size_eq_zero (by simp)]
  · refine run_buildSlice w t e n _ _ i zi hu h1 hzi (by rw [← h3]; omega) hp ?_
    rw [hparts, ← h3]
    exact Great.fill_whole (by omega) _ _ hc (by simp [hn])
theorem drop_dst {dd : Nat} (s : St) (v : V) : s = s := rfl
/-- what a literal's parts come to -/
theorem parts_laid {t e : TypeId} {n : Nat} {ps : Array (Nat × Operand)} {vs : List V} {s1 : St} (h : Rel G s a w) (hz : szOf P e ≠ 0) (ht : St.trees P s (ps.toList.map fun p => (e, p.2)) = some (vs, s1)) (hf : vs.all (fun v => v.flat.length == szOf P e) = true) :
    ∃ G', Rel G' s1 a w ∧ Still G s w G' s1 ∧ vs.length = ps.size ∧ Laid G' (szOf P e) vs ((ps.toList.map fun p => a.eval p.2).flatMap fun v => v.cells.toList).toArray ∧ (∀ x ∈ ps.toList.map fun p => a.eval p.2, x.cells.size = szOf P e) ∧
      (((ps.toList.map fun p => a.eval p.2).flatMap fun v => v.cells.toList).toArray).size = vs.length * szOf P e := by
  obtain ⟨G', h1, h2, h3, h4⟩ := Rel.trees P _ h ht
  have hxs : (ps.toList.map fun p => (e, p.2)).map (fun x => a.eval x.2) = ps.toList.map fun p => a.eval p.2 := by rw [List.map_map]; rfl
  rw [hxs] at h4
  have hl : vs.length = ps.size := by simpa using h3
  obtain ⟨k1, k2, k3⟩ := laid_of (G := G') (sz := szOf P e) (by omega) (vs := vs) (xs := ps.toList.map fun p => a.eval p.2) (by simpa using hl) (fun i hi => ⟨(h4 i hi).1, (h4 i hi).2.1, (h4 i hi).2.2.1⟩) (fun v hv => by
    rw [List.all_eq_true] at hf; simpa using hf v hv)
  exact ⟨G', h1, h2, hl, k1, k2, by rw [List.size_toArray]; exact k3⟩
theorem op_buildSlice {t e : TypeId} {n : Nat} {ps : Array (Nat × Operand)} {vs z : List V} {s1 : St} (h : Rel G s a w) (hu : P.underlying t = some (.slice e)) (hz : szOf P e ≠ 0) (hzero : zero P e = some z) (ho : inOrder 0 ps.toList = true) (hn : ps.size = n) (hsm : n * szOf P e ≤ 16777216)
    (ht : St.trees P s (ps.toList.map fun p => (e, p.2)) = some (vs, s1)) (hf : vs.all (fun v => v.flat.length == szOf P e) = true) : OpOk P ⟨d, .buildSlice t n ps, ty, pos, af, gd⟩ G s a w (.slc true (szOf P e) vs) s1 := by
  obtain ⟨G1, h1, h2, h3, h4, h5, h6⟩ := parts_laid (t := t) (n := n) h hz ht hf
  obtain ⟨G2, k1, k2, k3⟩ := h1.newRow (cap := n) h4 (by rw [h6, h3, hn]) (by omega) e
  refine ⟨.slice (some ⟨w.heap.size, 0, none⟩) n n, _, G2, ?_, k1, ?_, h2.fr.trans (by rw [h2.lv] at k3; exact k3)⟩
  · simp only [execOp]
    exact run_val (buildSlice_run hu hz hzero ho hn hsm h5 w)
  · rw [show vs.length = n by omega] at k2
    exact k2
theorem op_buildArr {t e : TypeId} {n dd : Nat} {ps : Array (Nat × Operand)} {vs z : List V} {s1 : St} (h : Rel G s a w) (hu : P.underlying t = some (.slice e)) (hz : szOf P e ≠ 0) (hzero : zero P e = some z) (ho : inOrder 0 ps.toList = true) (hn : ps.size = n) (hsm : n * szOf P e ≤ 16777216)
    (ht : St.trees P s (ps.toList.map fun p => (e, p.2)) = some (vs, s1)) (hf : vs.all (fun v => v.flat.length == szOf P e) = true) (hd : s1.b dd = none) :
    OpOk P ⟨d, .buildSlice t n ps, ty, pos, af, gd⟩ G s a w (.aref s.lv dd n) { s1 with b := upd s1.b dd (some (.arr false (szOf P e) vs)) } := by
  obtain ⟨G1, h1, h2, h3, h4, h5, h6⟩ := parts_laid (t := t) (n := n) h hz ht hf
  obtain ⟨k1, k2, k3⟩ := h1.allocOb hd (.cells ((ps.toList.map fun p => a.eval p.2).flatMap fun v => v.cells.toList).toArray e) (.arr false (szOf P e) vs) (fun w' hw' hle hs hS => ⟨_, e, by rw [hw']; exact heap_alloc_new _ _, (h4.mono hle).1, (h4.mono hle).2.1, (h4.mono hle).2.2, hS⟩)
  rw [h2.lv] at k1 k2 k3
  refine ⟨.slice (some ⟨w.heap.size, 0, none⟩) n n, _, _, ?_, k1, OwnS.of_tr' (Tr.aref _ _ _ _ _ k3 (Nat.le_refl _)), h2.fr.trans k2⟩
  simp only [execOp]
  exact run_val (buildSlice_run hu hz hzero ho hn hsm h5 w)
/-! ### make -/
theorem dflt_tr {t e : TypeId} (hu : P.underlying t = some (.slice e)) {z : List V} (hz : zero P e = some z) (hlen : z.length = szOf P e) (hn : szOf P e ≠ 0) (hfl : (dflt P t).flat.length = szOf P e) :
    ∃ zv, (∀ w : World, (zeroValue e).run P w = .ok zv w) ∧ zv.cells.size = szOf P e ∧ (dflt P t).flat.length = szOf P e ∧ ((dflt P t).flat.all pureC = true) ∧ ∀ j, j < szOf P e → Tr G.S G.β ((dflt P t).flat.getD j .undef) (zv.cells.getD j Go.undef) := by
  obtain ⟨zv, h1, h2, h3, _⟩ := zero_spec hz
  have hp : ∀ v (x : Value), agree v x = true → pureC v.viewC = true ∧ (∀ l, v ≠ .agg l) ∧ (∀ l, v ≠ .tup l) := by
    intro v x h
    unfold agree at h
    split at h
    all_goals first | exact ⟨rfl, (fun l e => by cases e), fun l e => by cases e⟩ | cases h
  have hd : (dflt P t).flat = z.map V.viewC := by
    unfold dflt
    have he : elemOf P t = e := by simp [elemOf, hu]
    rw [he, hz, Option.getD_some]
    cases ha : isAgg P e
    · obtain ⟨i, d, k1, k2, k3, k4⟩ := szOf_ne hn
      cases z with
      | nil => simp at hlen; omega
      | cons v z =>
        have h4 := hp _ _ (h3 0 (by simp))
        simp only [List.getD_cons_zero] at h4
        cases z with
        | nil =>
          simp only [pack, Bool.false_eq_true, if_false, List.headD_cons, List.map_cons, List.map_nil]
          cases v
          case agg l => exact absurd rfl (h4.2.1 l)
          case tup l => exact absurd rfl (h4.2.2 l)
          all_goals rfl
        | cons u z =>
          exfalso
          have : (dflt P t).flat.length = 1 := by
            unfold dflt
            rw [he, hz, Option.getD_some, ha]
            simp only [pack, Bool.false_eq_true, if_false, List.headD_cons]
            cases v
            case agg l => exact absurd rfl (h4.2.1 l)
            case tup l => exact absurd rfl (h4.2.2 l)
            all_goals rfl
          simp only [List.length_cons] at hlen
          omega
    · rfl
  refine ⟨zv, h1, by omega, by rw [hd, List.length_map]; exact hlen, ?_, fun j hj => ?_⟩
  · rw [hd, List.all_eq_true]
    intro x hx
    obtain ⟨y, hy, rfl⟩ := List.mem_map.1 hx
    obtain ⟨j, hj, rfl⟩ := List.getElem_of_mem hy
    have := h3 j hj
    rw [List.getD_eq_getElem?_getD, List.getElem?_eq_getElem hj, Option.getD_some] at this
    exact (hp _ _ this).1
  · rw [hd, getD_viewC]
    exact (agree_tr (G := G) (w := default) (h3 j (by omega)) (.rs 0 0)).view
theorem made_laid {t e : TypeId} (hu : P.underlying t = some (.slice e)) {z : List V} (hz : zero P e = some z) (hlen : z.length = szOf P e) (hn : szOf P e ≠ 0) (hfl : (dflt P t).flat.length = szOf P e) (n m : Nat) (hnm : n ≤ m) :
    ∃ i zv, P.info? e = some i ∧ i.zero = some zv ∧ i.size = szOf P e ∧ Laid G (szOf P e) (List.replicate n (dflt P t)) (madeCells zv.cells (m * szOf P e)) ∧ (madeCells zv.cells (m * szOf P e)).size = m * szOf P e := by
  obtain ⟨i, d, h1, h2, h3, h4⟩ := szOf_ne hn
  obtain ⟨zv, k1, k2, k3, k4, k5⟩ := dflt_tr (G := G) hu hz hlen hn hfl
  have hzi : i.zero = some zv := by
    have := k1 default
    simp only [zeroValue, Sem.run_bind, typeInfo, run_program, Result.andThen_ok, h1, Sem.run_pure] at this
    cases hh : i.zero with
    | none => simp [hh] at this
    | some y => simp [hh] at this; rw [this]
  have hsz : (madeCells zv.cells (m * szOf P e)).size = m * szOf P e := by simp [madeCells]
  refine ⟨i, zv, h1, hzi, h3.symm, ⟨?_, fun x hx => ?_, fun p q hp hq => ?_⟩, hsz⟩
  · rw [hsz, List.length_replicate]; exact Nat.mul_le_mul_right _ hnm
  · rw [List.eq_of_mem_replicate hx]; exact ⟨k3, k4⟩
  · rw [List.length_replicate] at hp
    have e1 : (List.replicate n (dflt P t)).getD p .undef = dflt P t := by simp [List.getD_eq_getElem?_getD, hp]
    rw [e1]
    have h6 := cell_lt (Nat.lt_of_lt_of_le hp hnm) hq
    have e2 : (madeCells zv.cells (m * szOf P e)).getD (p * szOf P e + q) Go.undef = zv.cells.getD q Go.undef := by
      have hq' : q < zv.cells.size := by omega
      have hmod : (p * szOf P e + q) % zv.cells.size = q := by rw [k2, Nat.mul_comm, Nat.mul_add_mod, Nat.mod_eq_of_lt hq]
      simp [madeCells, Array.getD, h6, hmod, hq']
    rw [e2]
    exact k5 q hq
theorem make_run {t e : TypeId} {i : TypeInfo} {zv : Value} (hu : P.underlying t = some (.slice e)) (hi : P.info? e = some i) (hz : i.zero = some zv) (kl kc : IntKind) {n m : Int} (h0 : 0 ≤ n) (hnm : n ≤ m) (hb0 : P.bytesOf e ≠ 0) (hb : m * P.bytesOf e ≤ 140737488355328) (w : World) :
    (Instr.makeSlice t (.int kl n) (.int kc m)).run P w = .ok (.slice (some ⟨w.heap.size, 0, none⟩) n.toNat m.toNat) (w.alloc (.cells (madeCells zv.cells (m.toNat * i.size)) e)) := by
  have hbe : P.bytesOf e = i.bytes := by simp [Program.bytesOf, hi]
  rw [hbe] at hb hb0
  have h1 : m ≤ m * i.bytes := by
    have : (1 : Int) ≤ i.bytes := by omega
    calc m = m * 1 := by omega
      _ ≤ m * i.bytes := Int.mul_le_mul_of_nonneg_left this (by omega)
  exact run_make w t e i zv hu hi hz kl kc n m h0 hnm (by rw [Int.mul_comm]; omega) (by omega)
theorem op_make {t e : TypeId} {x y : Operand} {z : List V} {kl kc : IntKind} {n m : Int} (h : Rel G s a w) (hu : P.underlying t = some (.slice e)) (hx : s.see P 0 x = .int kl n) (hy : s.see P 0 y = .int kc m) (hz : zero P e = some z) (hlen : z.length = szOf P e) (hn : szOf P e ≠ 0) (hfl : (dflt P t).flat.length = szOf P e)
    (hb0 : P.bytesOf e ≠ 0) (h0 : 0 ≤ n) (hnm : n ≤ m) (hb : m * P.bytesOf e ≤ 140737488355328) : OpOk P ⟨d, .makeSlice t x y, ty, pos, af, gd⟩ G s a w (.slc true (szOf P e) (List.replicate n.toNat (dflt P t))) s := by
  obtain ⟨i, zv, h1, h2, h3, h4, h5⟩ := made_laid (G := G) hu hz hlen hn hfl n.toNat m.toNat (by omega)
  obtain ⟨G2, k1, k2, k3⟩ := h.newRow (cap := m.toNat) h4 h5 (by simp; omega) e
  have e1 := h.see P 0 x
  have e2 := h.see P 0 y
  rw [hx] at e1
  rw [hy] at e2
  refine ⟨.slice (some ⟨w.heap.size, 0, none⟩) n.toNat m.toNat, _, G2, ?_, k1, ?_, k3⟩
  · simp only [execOp]
    refine run_val ?_
    rw [e1.int_inv, e2.int_inv, make_run hu h1 h2 kl kc h0 hnm hb0 hb, h3]
  · rw [List.length_replicate] at k2; exact k2
theorem op_makeArr {t e : TypeId} {dd : Nat} {x y : Operand} {z : List V} {kl kc : IntKind} {n m : Int} (h : Rel G s a w) (hu : P.underlying t = some (.slice e)) (hx : s.see P 0 x = .int kl n) (hy : s.see P 0 y = .int kc m) (hz : zero P e = some z) (hlen : z.length = szOf P e) (hn : szOf P e ≠ 0) (hfl : (dflt P t).flat.length = szOf P e)
    (hb0 : P.bytesOf e ≠ 0) (h0 : 0 ≤ n) (hnm : n ≤ m) (hb : m * P.bytesOf e ≤ 140737488355328) (hd : s.b dd = none) :
    OpOk P ⟨d, .makeSlice t x y, ty, pos, af, gd⟩ G s a w (.aref s.lv dd n.toNat) { s with b := upd s.b dd (some (.arr false (szOf P e) (List.replicate n.toNat (dflt P t)))) } := by
  obtain ⟨i, zv, h1, h2, h3, h4, h5⟩ := made_laid (G := G) hu hz hlen hn hfl n.toNat m.toNat (by omega)
  obtain ⟨k1, k2, k3⟩ := h.allocOb hd (.cells (madeCells zv.cells (m.toNat * szOf P e)) e) (.arr false (szOf P e) (List.replicate n.toNat (dflt P t))) (fun w' hw' hle hs hS => ⟨_, e, by rw [hw']; exact heap_alloc_new _ _, (h4.mono hle).1, (h4.mono hle).2.1, (h4.mono hle).2.2, hS⟩)
  have e1 := h.see P 0 x
  have e2 := h.see P 0 y
  rw [hx] at e1
  rw [hy] at e2
  refine ⟨.slice (some ⟨w.heap.size, 0, none⟩) n.toNat m.toNat, _, _, ?_, k1, OwnS.of_tr' (Tr.aref _ _ _ _ _ k3 (by omega)), k2⟩
  simp only [execOp]
  refine run_val ?_
  rw [e1.int_inv, e2.int_inv, make_run hu h1 h2 kl kc h0 hnm hb0 hb, h3]
end Go.Ev
namespace Go.Ev
open Go
set_option linter.unusedVariables false
set_option linter.unusedSimpArgs false
variable {P : Program} {G : Gh} {s : St} {a : Act} {w : World} {o : Oper}
variable {d : Option Nat} {ty : TypeId} {pos : String} {af : Array Edge} {gd : Option (Nat × Bool)}

theorem Rel.drew (h : Rel G s a w) : Rel G s a w.drew := ⟨h.size, h.defers, h.slot, h.obj, h.dom, h.imm, h.lim⟩
theorem Fr.drew {lv : Nat} {G' : Gh} {w' : World} (h : Fr lv G w.drew G' w') : Fr lv G w G' w' := ⟨h.os, h.tape, h.output, h.size, h.keep, h.imm, h.outer⟩
theorem app_room {t tx tyy e : TypeId} {i : TypeInfo} {dx : TypeDesc} {A : Option Addr} {n cap m : Nat} {Y : Value} {news : List Value} (ht : P.underlying t = some (.slice e)) (hi : P.info? e = some i) (hx : P.underlying tx = some dx) (hk : ∀ k, dx ≠ .int k)
    (hlen : (Builtin.lenOf Y).run P w = .ok m w) (hf : (Builtin.firstCells i.size m Y).run P w = .ok news.toArray w) (hroom : n + m ≤ cap) :
    (Builtin.append_ #[t, tx] tyy #[.slice A n cap, Y]).run P w = match A with
      | none => .ok (.slice none (n + m) cap) w
      | some b => ((storeCells (b.add (n * i.size)) news).run P w).andThen fun _ w' => .ok (.slice (some b) (n + m) cap) w' := by
  have hz : (dx matches .int _) = false := by cases dx <;> first | rfl | exact absurd rfl (hk _)
  cases A <;> simp [Builtin.append_, run_underlying ht, run_underlying hx, sizeOf, typeInfo, hi, hz, hlen, hroom, hf]
theorem app_grow {t tx tyy e : TypeId} {i : TypeInfo} {z : Value} {dx : TypeDesc} {A : Option Addr} {n cap m : Nat} {Y : Value} {news olds : List Value} (ht : P.underlying t = some (.slice e)) (hi : P.info? e = some i) (hz : i.zero = some z) (hx : P.underlying tx = some dx) (hk : ∀ k, dx ≠ .int k)
    (hlen : (Builtin.lenOf Y).run P w = .ok m w) (hf : (Builtin.firstCells i.size m Y).run P w.drew = .ok news.toArray w.drew) (ho : (Builtin.firstCells i.size n (.slice A n cap)).run P w.drew = .ok olds.toArray w.drew) (hb0 : 0 < i.bytes)
    (hg : cap < n + m) (hfit : (n + m) * i.bytes ≤ 140737488355328) :
    (Builtin.append_ #[t, tx] tyy #[.slice A n cap, Y]).run P w = .ok (.slice (some ⟨w.heap.size, 0, none⟩) (n + m) (grownCap w (n + m) cap e))
        (w.drew.alloc (.cells (olds.toArray ++ news.toArray ++ Builtin.zeroCells z.cells (grownCap w (n + m) cap e - (n + m))) e)) := by
  have hzz : (dx matches .int _) = false := by cases dx <;> first | rfl | exact absurd rfl (hk _)
  have hn : ¬ (n + m ≤ cap) := by omega
  have h1 : n + m ≤ (n + m) * i.bytes := Nat.le_mul_of_pos_right _ hb0
  have h63' : ¬ (9223372036854775807 < ((n : Int) + (m : Int))) := by omega
  have h48 := growslice_fits hg hfit
  have h48' : ¬ (281474976710656 < Builtin.nextslicecap (n + m) cap * i.bytes) := by omega
  simp [Builtin.append_, run_underlying ht, run_underlying hx, sizeOf, typeInfo, zeroValue, hi, hz, hzz, hlen, hn, h63', h48', Question.forced, hf, ho, Go.newRow, grownCap]
  congr 2
  apply Array.ext'
  simp [List.append_assoc]
theorem add_add (b o n m : Nat) : ((⟨b, o, none⟩ : Addr).add n).add m = ⟨b, o + n + m, none⟩ := by rw [add_eq, add_eq]
/-- the cells of what is appended (or of what it is appended to) -/
theorem src_slc (h : Rel G s a w) {sz : Nat} (hz : 0 < sz) {l : List V} {x : Value} (hv : Tr G.S G.β (.slc false sz l) x) : ∃ cs : List Value, (Builtin.lenOf x).run P w = .ok l.length w ∧ (Builtin.firstCells sz l.length x).run P w = .ok cs.toArray w ∧ (Builtin.firstCells sz l.length x).run P w.drew = .ok cs.toArray w.drew ∧
    Laid G sz l cs.toArray ∧ cs.length = l.length * sz ∧ ∀ u ∈ cs, u.oneCell' = true := by
  rcases hv.slc_inv with ⟨rfl, A0, cap0, rfl⟩ | ⟨b, o, cap, c, rfl, hc, hs, hS, hT⟩
  · exact ⟨[], rfl, by cases A0 <;> first | rfl | simp [Builtin.firstCells, loadCells, loadCellsFrom], by cases A0 <;> first | rfl | simp [Builtin.firstCells, loadCells, loadCellsFrom], ⟨by simp, (fun x hx => by cases hx), fun i j hi => absurd hi (Nat.not_lt_zero _)⟩, by simp, fun u hu => by cases hu⟩
  · have e1 := slc_cells h hS P
    have e2 := slc_cells h.drew hS P
    have hlen : ((List.range (l.length * sz)).map fun k => c (k / sz) (k % sz)).length = l.length * sz := by simp
    refine ⟨(List.range (l.length * sz)).map fun k => c (k / sz) (k % sz), rfl, e1, e2, ⟨by simp, hs, fun i j hi hj => ?_⟩, hlen, fun u hu => ?_⟩
    · have h5 := cell_lt hi hj
      have d1 : (i * sz + j) / sz = i := by rw [Nat.mul_comm, Nat.mul_add_div hz, Nat.div_eq_of_lt hj, Nat.add_zero]
      have d2 : (i * sz + j) % sz = j := by rw [Nat.mul_comm, Nat.mul_add_mod, Nat.mod_eq_of_lt hj]
      have : ((List.range (l.length * sz)).map fun k => c (k / sz) (k % sz)).toArray.getD (i * sz + j) Go.undef = c i j := by
        simp [Array.getD, h5, d1, d2]
      rw [this]
      exact hT i j hi hj
    · obtain ⟨k, hk, rfl⟩ := List.mem_map.1 hu
      have hk' : k < l.length * sz := by simpa using hk
      have h1 : k / sz < l.length := Nat.div_lt_of_lt_mul (by rw [Nat.mul_comm]; exact hk')
      have h2 : k % sz < sz := Nat.mod_lt _ hz
      have h3 := hT _ _ h1 h2
      have h4 := hs (l.getD (k / sz) .undef) (by rw [List.getD_eq_getElem?_getD, List.getElem?_eq_getElem h1]; exact List.getElem_mem h1)
      have h5 : pureC ((l.getD (k / sz) .undef).flat.getD (k % sz) .undef) = true := by
        have hlt : k % sz < (l.getD (k / sz) .undef).flat.length := by rw [h4.1]; exact h2
        have := h4.2
        rw [List.all_eq_true] at this
        refine this _ ?_
        rw [List.getD_eq_getElem?_getD (l := (l.getD (k / sz) .undef).flat), List.getElem?_eq_getElem hlt]
        exact List.getElem_mem hlt
      refine (cells_one h3 ?_ ?_).2
      · intro e; rw [e] at h5; cases h5
      · intro l e; rw [e] at h5; cases h5
theorem src_str {sz : Nat} (b : ByteArray) : ∃ cs : List Value, (Builtin.lenOf (.string b)).run P w = .ok b.size w ∧ (Builtin.firstCells 1 b.size (.string b)).run P w = .ok cs.toArray w ∧ (Builtin.firstCells 1 b.size (.string b)).run P w.drew = .ok cs.toArray w.drew ∧
    Laid G 1 (bytesV b) cs.toArray ∧ cs.length = (bytesV b).length * 1 ∧ (bytesV b).length = b.size ∧ ∀ u ∈ cs, u.oneCell' = true := by
  have hl : (bytesV b).length = b.size := by simp [bytesV]
  have hx : (b.extract 0 b.size) = b := by simp
  refine ⟨b.data.toList.map fun c => .int .u8 (c.toNat : Int), rfl, ?_, ?_, ⟨?_, fun x hx => ?_, fun i j hi hj => ?_⟩, by simp [bytesV], hl, fun u hu => ?_⟩
  · simp only [Builtin.firstCells, Sem.run_pure, hx]
    congr 1
    apply Array.ext'
    simp
  · simp only [Builtin.firstCells, Sem.run_pure, hx]
    congr 1
    apply Array.ext'
    simp
  · simp [bytesV]
  · obtain ⟨c, _, rfl⟩ := List.mem_map.1 hx; exact ⟨rfl, rfl⟩
  · obtain rfl : j = 0 := by omega
    have hi' : i < b.data.toList.length := by simpa [bytesV] using hi
    have e1 : (bytesV b).getD i .undef = .int .u8 ((b.data.toList[i]).toNat : Int) := by
      simp only [bytesV, List.getD_eq_getElem?_getD, List.getElem?_map, List.getElem?_eq_getElem hi', Option.map_some, Option.getD_some]
    have e2 : ((b.data.toList.map fun c => Value.int .u8 (c.toNat : Int)).toArray).getD (i * 1 + 0) Go.undef = .int .u8 ((b.data.toList[i]).toNat : Int) := by
      have : i < b.data.size := by simpa using hi'
      have h' : i < b.size := this
      simp [Array.getD, this, h']
    rw [e1, e2]
    exact Tr.int _ _
  · obtain ⟨c, _, rfl⟩ := List.mem_map.1 hu; rfl
theorem Laid.append {sz : Nat} {l m : List V} {cs ds rest : List Value} (h : Laid G sz l cs.toArray) (k : Laid G sz m ds.toArray) (hl : cs.length = l.length * sz) (hm : ds.length = m.length * sz) : Laid G sz (l ++ m) (cs ++ ds ++ rest).toArray := by
  refine ⟨by simp [hl, hm, Nat.add_mul], fun x hx => ?_, fun i j hi hj => ?_⟩
  · rcases List.mem_append.1 hx with hx | hx
    · exact h.2.1 x hx
    · exact k.2.1 x hx
  · by_cases h1 : i < l.length
    · have e1 : (l ++ m).getD i .undef = l.getD i .undef := by simp [List.getD_eq_getElem?_getD, List.getElem?_append_left h1]
      have h2 := cell_lt h1 hj
      have e2 : (cs ++ ds ++ rest).toArray.getD (i * sz + j) Go.undef = cs.toArray.getD (i * sz + j) Go.undef := by
        simp only [Array.getD_eq_getD_getElem?, List.getElem?_toArray, List.append_assoc]
        rw [List.getElem?_append_left (by omega)]
      rw [e1, e2]
      exact h.2.2 i j h1 hj
    · have h3 : i - l.length < m.length := by simp at hi; omega
      have e1 : (l ++ m).getD i .undef = m.getD (i - l.length) .undef := by simp [List.getD_eq_getElem?_getD, List.getElem?_append_right (by omega : l.length ≤ i)]
      have h2 := cell_lt h3 hj
      have h4 : i * sz = l.length * sz + (i - l.length) * sz := by rw [← Nat.add_mul]; congr 1; omega
      have e2 : (cs ++ ds ++ rest).toArray.getD (i * sz + j) Go.undef = ds.toArray.getD ((i - l.length) * sz + j) Go.undef := by
        simp only [Array.getD_eq_getD_getElem?, List.getElem?_toArray, List.append_assoc]
        rw [List.getElem?_append_right (by omega), List.getElem?_append_left (by omega)]
        congr 2
        omega
      rw [e1, e2]
      exact k.2.2 _ j h3 hj
def Gh.tail (G : Gh) (g lo hi : Nat) (news : List Value) : Gh := { G with S := fun k j => if k = g ∧ lo ≤ j ∧ j < hi then news[j - lo]? else G.S k j }
theorem grow_core (h : Rel G s a w) {t tx e : TypeId} {sz : Nat} {l m : List V} {X Y : Value} {news : List Value} {dx : TypeDesc} (hgr : growB P t = true) (hse : sz = elemSz P t) (he : P.underlying t = some (.slice e)) (hx : P.underlying tx = some dx) (hk : ∀ k, dx ≠ .int k)
    (hX : OwnS G w Pl.rs (.slc true sz l) X) (hlen : (Builtin.lenOf Y).run P w = .ok m.length w) (hf : (Builtin.firstCells sz m.length Y).run P w = .ok news.toArray w) (hf' : (Builtin.firstCells sz m.length Y).run P w.drew = .ok news.toArray w.drew)
    (hL : Laid G sz m news.toArray) (hn : news.length = m.length * sz) (h1 : ∀ u ∈ news, u.oneCell' = true) (hb : (l.length + m.length) * P.bytesOf e ≤ 140737488355328) :
    ∃ x w' G', (Builtin.append_ #[t, tx] ty #[X, Y]).run P w = .ok x w' ∧ Rel G' s a w' ∧ OwnS G' w' Pl.rs (.slc true sz (l ++ m)) x ∧ Fr s.lv G w G' w' := by
  have hee : elemOf P t = e := by simp [elemOf, he]
  unfold growB at hgr
  simp only [Bool.and_eq_true, bne_iff_ne, ne_eq] at hgr
  obtain ⟨⟨⟨_, hnz⟩, hbz⟩, hzz⟩ := hgr
  have hszz : sz = szOf P e := by rw [hse]; simp [elemSz, hee]
  have hnz' : szOf P e ≠ 0 := by rw [← hszz, hse]; exact hnz
  obtain ⟨i, d, g1, g2, g3, g4⟩ := szOf_ne hnz'
  rw [hee] at hbz hzz
  have hbe : P.bytesOf e = i.bytes := by simp [Program.bytesOf, g1]
  cases hzo : zero P e with
  | none => rw [hzo] at hzz; cases hzz
  | some z =>
    rw [hzo] at hzz
    have hzl : z.length = szOf P e := by have : z.length = elemSz P t := by simpa using hzz
                                         rw [this, ← hse, hszz]
    obtain ⟨zv, k1, k2, k3, _⟩ := zero_spec hzo
    have hzi : i.zero = some zv := by
      have := k1 default
      simp only [zeroValue, Sem.run_bind, typeInfo, run_program, Result.andThen_ok, g1, Sem.run_pure] at this
      cases hh : i.zero with
      | none => simp [hh] at this
      | some y => simp [hh] at this; rw [this]
    have hpos : 0 < sz := by omega
    have hX0 := hX
    have hsi : i.size = sz := by omega
    obtain ⟨hXt, A, cap, rfl, hown⟩ : Tr G.S G.β (.slc false sz l) X ∧ ∃ a cap, X = .slice a l.length cap ∧ (cap = l.length ∨ ∃ g cs ty, a = some ⟨g, 0, none⟩ ∧ G.ω g = some (.rs 0 0) ∧ w.heap[g]? = some (.cells cs ty (0, 0)) ∧ cs.size = cap * sz ∧ ∀ j, l.length * sz ≤ j → G.S g j = none) := hX
    obtain ⟨olds, o1, o2, o3, o4, o5, o6⟩ := src_slc (P := P) h hpos hXt
    have hcl : l.length ≤ cap := by
      rcases hXt.slc_inv with ⟨rfl, _⟩ | ⟨b, o, cap', c, hh, hc, _⟩
      · exact Nat.zero_le _
      · cases hh; exact hc
    by_cases hroom : l.length + m.length ≤ cap
    · have hr := app_room (P := P) (w := w) (t := t) (tx := tx) (tyy := ty) (A := A) (n := l.length) (cap := cap) (Y := Y) he g1 hx hk hlen (by rw [hsi]; exact hf) hroom
      rcases hown with hown | ⟨g, cs, cty, rfl, hω, hg, hcs, hS⟩
      · -- nothing comes to it
        have hm0 : m = [] := List.eq_nil_of_length_eq_zero (by omega)
        subst hm0
        have hn0 : news = [] := List.eq_nil_of_length_eq_zero (by simpa using hn)
        subst hn0
        refine ⟨.slice A l.length cap, w, G, ?_, h, ?_, Fr.refl _ _ _⟩
        · rw [hr]
          cases A <;> simp [storeCells]
        · rw [List.append_nil]; exact hX0
      · have hfit : l.length * sz + news.length ≤ cs.size := by rw [hn, hcs, ← Nat.add_mul]; exact Nat.mul_le_mul_right _ hroom
        have hst := run_storeCells_at P g (l.length * sz) cty news 0 cs w hg (by simpa using hfit) h1
        simp only [Nat.add_zero] at hst
        have hnew : (w.setRow g (cs.toList.take (l.length * sz) ++ news ++ cs.toList.drop (l.length * sz + news.length)).toArray).heap[g]? = some (.cells (cs.toList.take (l.length * sz) ++ news ++ cs.toList.drop (l.length * sz + news.length)).toArray cty (0, 0)) := setRow_heap w g cs _ cty _ hg
        generalize hw' : w.setRow g (cs.toList.take (l.length * sz) ++ news ++ cs.toList.drop (l.length * sz + news.length)).toArray = w' at hst hnew
        have hoth : ∀ k, k ≠ g → w'.heap[k]? = w.heap[k]? := fun k hk => by rw [← hw']; exact setRow_other w g k _ hk
        have hGoth : ∀ k, k ≠ g → ∀ j, (G.tail g (l.length * sz) ((l.length + m.length) * sz) news).S k j = G.S k j := fun k hk j => by
          show (if k = g ∧ _ then _ else _) = _
          rw [if_neg (fun e => hk e.1)]
        have hle : Le G (G.tail g (l.length * sz) ((l.length + m.length) * sz) news) := ⟨fun k j c hc => by
          show (if k = g ∧ _ then _ else _) = _
          rw [if_neg (by rintro ⟨rfl, h2, _⟩; rw [hS j h2] at hc; cases hc)]; exact hc, fun _ _ _ e => e⟩
        have hws : w'.heap.size = w.heap.size := by rw [← hw']; simp
        have hSg : ∀ j, l.length * sz ≤ j → j < (l.length + m.length) * sz → (G.tail g (l.length * sz) ((l.length + m.length) * sz) news).S g j = news[j - l.length * sz]? := fun j h2 h3 => by
          show (if g = g ∧ _ then _ else _) = _
          rw [if_pos ⟨rfl, h2, h3⟩]
        have hcell : ∀ j, w'.cell? ⟨g, j, none⟩ = (cs.toList.take (l.length * sz) ++ news ++ cs.toList.drop (l.length * sz + news.length))[j]? := fun j => by simp only [World.cell?, hnew]; simp
        have hlz : l.length * sz ≤ cs.size := by omega
        refine ⟨.slice (some ⟨g, 0, none⟩) (l.length + m.length) cap, w', G.tail g (l.length * sz) ((l.length + m.length) * sz) news, ?_, h.grow hle rfl (fun k p hp hpk => ?_) (fun k j c hc => ?_) (fun k p hp => by rw [hws]; exact h.lim k p hp), ?_, ⟨by rw [← hw']; rfl, by rw [← hw']; rfl, by rw [← hw']; rfl, by rw [hws]; exact Nat.le_refl _, fun k hk hm => ?_, hle.S, fun _ _ _ => rfl⟩⟩
        · rw [hr]
          show ((storeCells ((⟨g, 0, none⟩ : Addr).add (l.length * i.size)) news).run P w).andThen _ = _
          rw [hsi, add_eq, Nat.zero_add, hst]
          rfl
        · have hkg : k ≠ g := by rintro rfl; rw [hω] at hpk; cases hpk; exact hp 0 0 rfl
          exact ⟨hoth k hkg, hGoth k hkg, hpk⟩
        · by_cases hkg : k = g
          · subst hkg
            have hc' : (if k = k ∧ l.length * sz ≤ j ∧ j < (l.length + m.length) * sz then news[j - l.length * sz]? else G.S k j) = some c := hc
            rw [hcell]
            split at hc'
            · rename_i hh
              rw [List.append_assoc, List.getElem?_append_right (by simp; omega)]
              simp only [List.length_take, Array.length_toList, Nat.min_eq_left hlz]
              rw [List.getElem?_append_left (by have h2 := hh.2.2; rw [Nat.add_mul] at h2; have h3 := hh.2.1; omega)]
              exact hc'
            · have hj : j < l.length * sz := by
                rcases Nat.lt_or_ge j (l.length * sz) with h' | h'
                · exact h'
                · rw [hS j h'] at hc'; cases hc'
              have := h.imm _ _ _ hc'
              simp only [World.cell?, hg] at this
              rw [List.append_assoc, List.getElem?_append_left (by simp; omega), List.getElem?_take, if_pos hj]
              simpa using this
          · rw [hGoth k hkg] at hc
            have := h.imm _ _ _ hc
            simp only [World.cell?, hoth k hkg]
            exact this
        · have hLn := Laid.append (rest := cs.toList.drop (l.length * sz + news.length)) (o4.mono hle) (hL.mono hle) o5 hn
          have hlm : (l ++ m).length = l.length + m.length := by simp
          refine ⟨?_, some ⟨g, 0, none⟩, cap, by rw [hlm], .inr ⟨g, _, cty, rfl, hω, hnew, ?_, fun j hj => ?_⟩⟩
          · suffices hfin : Tr (G.tail g (l.length * sz) ((l.length + m.length) * sz) news).S (G.tail g (l.length * sz) ((l.length + m.length) * sz) news).β (.slc false sz (l ++ m)) (.slice (some ⟨g, 0, none⟩) (l ++ m).length cap) by rw [hlm] at hfin; exact hfin
            refine Tr.slc sz (l ++ m) g 0 cap (fun i j => (olds ++ news ++ cs.toList.drop (l.length * sz + news.length)).toArray.getD (i * sz + j) Go.undef) (by omega) hLn.2.1 (fun p q hp hq => ?_) hLn.2.2
            have h5 := cell_lt hp hq
            rw [Nat.zero_add]
            by_cases hlo : p * sz + q < l.length * sz
            · -- an elder element
              have hp' : p < l.length := by
                rcases Nat.lt_or_ge p l.length with h' | h'
                · exact h'
                · have := Nat.mul_le_mul_right sz h'; omega
              rcases hXt.slc_inv with ⟨rfl, _⟩ | ⟨b, o, cap', c, hh, hc, hs, hS0, hT0⟩
              · simp at hp'
              · cases hh
                have e1 := hle.S _ _ _ (hS0 p q hp' hq)
                rw [Nat.zero_add] at e1
                rw [e1]
                have e2 := slc_cells h hS0 P
                have e3 : (loadCells ⟨g, 0, none⟩ (l.length * sz)).run P w = .ok olds.toArray w := o2
                rw [e3] at e2
                have e4 : olds = (List.range (l.length * sz)).map fun k => c (k / sz) (k % sz) := by
                  have := (Result.ok.inj e2).1
                  simpa using this
                have d1 : (p * sz + q) / sz = p := by rw [Nat.mul_comm, Nat.mul_add_div hpos, Nat.div_eq_of_lt hq, Nat.add_zero]
                have d2 : (p * sz + q) % sz = q := by rw [Nat.mul_comm, Nat.mul_add_mod, Nat.mod_eq_of_lt hq]
                simp only [Array.getD_eq_getD_getElem?, List.getElem?_toArray, List.append_assoc]
                rw [List.getElem?_append_left (by omega), e4, List.getElem?_map, List.getElem?_range hlo]
                simp [d1, d2]
            · rw [hSg _ (by omega) (by rw [← hlm]; exact h5)]
              simp only [Array.getD_eq_getD_getElem?, List.getElem?_toArray, List.append_assoc]
              have h6 : p * sz + q - l.length * sz < news.length := by rw [hn]; rw [hlm, Nat.add_mul] at h5; omega
              rw [List.getElem?_append_right (by omega), List.getElem?_append_left (by omega), o5]
              rw [List.getElem?_eq_getElem h6, Option.getD_some]
          · simp only [List.size_toArray, List.length_append, List.length_take, List.length_drop, Array.length_toList]
            omega
          · show (if g = g ∧ _ then _ else _) = _
            rw [if_neg (fun e => by have := e.2.2; rw [hlm] at hj; omega)]
            exact hS j (by rw [hlm, Nat.add_mul] at hj; omega)
        · have hkg : k ≠ g := by rintro rfl; exact hm _ hω trivial
          exact ⟨hoth k hkg, rfl, hGoth k hkg⟩
    · have hr := app_grow (P := P) (w := w) (t := t) (tx := tx) (tyy := ty) (A := A) (n := l.length) (cap := cap) (Y := Y) (news := news) (olds := olds) he g1 hzi hx hk hlen (by rw [hsi]; exact hf') (by rw [hsi]; exact o3) (by omega) (by omega) (by rw [← hbe]; exact hb)
      have hge := grownCap_ge w (l.length + m.length) cap e
      have hzc : (Builtin.zeroCells zv.cells (grownCap w (l.length + m.length) cap e - (l.length + m.length))).size = (grownCap w (l.length + m.length) cap e - (l.length + m.length)) * sz := by
        rw [size_zeroCells, ← k2, hzl, hszz]
      have hLn := Laid.append (rest := (Builtin.zeroCells zv.cells (grownCap w (l.length + m.length) cap e - (l.length + m.length))).toList) o4 hL o5 hn
      have harr : olds.toArray ++ news.toArray ++ Builtin.zeroCells zv.cells (grownCap w (l.length + m.length) cap e - (l.length + m.length)) = (olds ++ news ++ (Builtin.zeroCells zv.cells (grownCap w (l.length + m.length) cap e - (l.length + m.length))).toList).toArray := by
        apply Array.ext'
        simp
      rw [harr] at hr
      have hlm : (l ++ m).length = l.length + m.length := by simp
      obtain ⟨G2, q1, q2, q3⟩ := h.drew.newRow (cap := grownCap w (l.length + m.length) cap e) hLn (by
        have hz2 : (Builtin.zeroCells zv.cells (grownCap w (l.length + m.length) cap e - (l.length + m.length))).toList.length = (grownCap w (l.length + m.length) cap e - (l.length + m.length)) * sz := by rw [Array.length_toList]; exact hzc
        rw [List.size_toArray, List.length_append, List.length_append, hz2, o5, hn, ← Nat.add_mul, ← Nat.add_mul]
        congr 1
        omega) (by rw [hlm]; exact hge) e
      refine ⟨_, _, G2, hr, q1, ?_, q3.drew⟩
      rw [hlm] at q2
      exact q2
theorem op_append {x y : Operand} {t t' : TypeId} {v : V} (h : Rel G s a w) (hv : appendV P t t' (s.all P t x) (s.see P t' y) = some v) :
    OpOk P ⟨d, .call { callee := .builtin .append, args := #[x, y], argTypes := #[t, t'] }, ty, pos, af, gd⟩ G s a w v (s.drop x) := by
  obtain ⟨G1, h1, h2, h3, _, h5, h6⟩ := h.all P t x
  have hy := h.see P t' y
  have h0 : ∀ own sz l, s.see P t' y = .slc own sz l → own = false := fun own sz l e => see_slc e
  rw [← h5, ← h6] at hy
  generalize s.see P t' y = yv at hv hy h0
  have hlv : (s.drop x).lv = s.lv := by cases x <;> rfl
  have fin : ∀ {x' : Value} {w' : World} {G' : Gh}, (Builtin.append_ #[t, t'] ty #[a.eval x, a.eval y]).run P w = .ok x' w' → Rel G' (s.drop x) a w' → OwnS G' w' Pl.rs v x' → Fr (s.drop x).lv G1 w G' w' → OpOk P ⟨d, .call { callee := .builtin .append, args := #[x, y], argTypes := #[t, t'] }, ty, pos, af, gd⟩ G s a w v (s.drop x) := by
    intro x' w' G' e1 e2 e3 e4
    refine ⟨x', w', G', run_builtin ?_, e2, e3, h3.trans (by rw [hlv] at e4; exact e4)⟩
    simp only [builtin, List.map_toArray, List.map_cons, List.map_nil, Sem.run_bind, e1, Result.andThen_ok, Sem.run_pure]
  unfold appendV at hv
  split at hv
  · rename_i sz l hx
    split at hv
    · rename_i hgr
      obtain ⟨hgr, hse⟩ := hgr
      obtain ⟨e, he, hel⟩ := isSl_spec (by simp only [growB, Bool.and_eq_true] at hgr; exact hgr.1.1.1)
      rw [hx] at h2
      split at hv
      · rename_i own sz' m
        obtain rfl := h0 _ _ _ rfl
        split at hv
        · rename_i hc
          obtain ⟨hsl, rfl⟩ := hc
          split at hv
          · rename_i hb
            obtain rfl := Option.some.inj hv
            obtain ⟨e', he', _⟩ := isSl_spec hsl
            have hpos : 0 < sz' := by
              simp only [growB, Bool.and_eq_true, bne_iff_ne] at hgr
              have := hgr.1.1.2
              omega
            obtain ⟨cs, c1, c2, c3, c4, c5, c6⟩ := src_slc (P := P) h1 hpos hy
            obtain ⟨x', w', G', e1, e2, e3, e4⟩ := grow_core (ty := ty) h1 hgr hse he he' (fun k e => by cases e) h2 c1 c2 c3 c4 c5 c6 (by rw [hel] at hb; exact hb)
            exact fin e1 e2 e3 e4
          · cases hv
        · cases hv
      · rename_i b
        split at hv
        · rename_i hc
          obtain ⟨hst, rfl⟩ := hc
          split at hv
          · rename_i hb
            obtain rfl := Option.some.inj hv
            have he' := isStr_spec hst
            obtain ⟨cs, c1, c2, c3, c4, c5, c5', c6⟩ := src_str (P := P) (G := G1) (w := w) (sz := 1) b
            rw [hy.str_inv] at fin
            rw [← c5'] at c1 c2 c3 hb
            obtain ⟨x', w', G', e1, e2, e3, e4⟩ := grow_core (ty := ty) h1 hgr hse he he' (fun k e => by cases e) h2 c1 c2 c3 c4 c5 c6 (by rw [hel] at hb; exact hb)
            exact fin e1 e2 e3 e4
          · cases hv
        · cases hv
      · cases hv
    · cases hv
  · cases hv
end Go.Ev
namespace Go.Ev
open Go
set_option linter.unusedVariables false
set_option linter.unusedSimpArgs false
variable {P : Program} {G : Gh} {s : St} {a : Act} {w : World} {o : Oper}
variable {d : Option Nat} {ty : TypeId} {pos : String} {af : Array Edge} {gd : Option (Nat × Bool)}

theorem store_run {t : TypeId} (hz : szOf P t ≠ 0) {g off : Nat} {cs : Array Value} {ct : TypeId} {x : Value} (hg : w.heap[g]? = some (.cells cs ct (0, 0))) (hx : x.cells.size = szOf P t) (hb : off + szOf P t ≤ cs.size) (h1 : ∀ u ∈ x.cells.toList, u.oneCell' = true) :
    (storeVar t ⟨g, off, none⟩ x).run P w = .ok () (w.setRow g (cs.toList.take off ++ x.cells.toList ++ cs.toList.drop (off + szOf P t)).toArray) := by
  have hst := run_storeCells_at P g off ct x.cells.toList 0 cs w hg (by simp [hx]; exact hb) h1
  simp only [Nat.add_zero, Array.length_toList, hx] at hst
  unfold storeVar
  simp only [Sem.run_bind, run_sizeOf' hz, Result.andThen_ok, hx, ne_eq, not_true_eq_false, if_false]
  exact hst
theorem getD_row {cs : Array Value} {vs : List Value} {off n j : Nat} (hv : vs.length = n) (hb : off + n ≤ cs.size) : (cs.toList.take off ++ vs ++ cs.toList.drop (off + n)).toArray.getD j Go.undef = if off ≤ j ∧ j < off + n then vs.getD (j - off) Go.undef else cs.getD j Go.undef := by
  simp only [Array.getD_eq_getD_getElem?, List.getElem?_toArray, List.append_assoc, List.getD_eq_getElem?_getD]
  by_cases h1 : j < off
  · rw [List.getElem?_append_left (by simp; omega), List.getElem?_take, if_pos h1, if_neg (by omega)]
    simp
  · rw [List.getElem?_append_right (by simp; omega)]
    simp only [List.length_take, Array.length_toList, Nat.min_eq_left (show off ≤ cs.size by omega)]
    by_cases h2 : j - off < vs.length
    · rw [List.getElem?_append_left h2, if_pos (by omega)]
    · rw [List.getElem?_append_right (by omega), if_neg (by omega), List.getElem?_drop]
      rw [show off + n + (j - off - vs.length) = j by omega]
      simp
theorem size_row {cs : Array Value} {vs : List Value} {off n : Nat} (hv : vs.length = n) (hb : off + n ≤ cs.size) : (cs.toList.take off ++ vs ++ cs.toList.drop (off + n)).toArray.size = cs.size := by
  simp only [List.size_toArray, List.length_append, List.length_take, List.length_drop, Array.length_toList]
  omega
theorem drop_ob (x : Operand) (lv u : Nat) : (s.drop x).ob lv u = s.ob lv u := by cases x <;> rfl
theorem drop_lv (x : Operand) : (s.drop x).lv = s.lv := by cases x <;> rfl
def putOF (lv u off : Nat) : Pl → Pl
  | .rs 0 j => .cl lv u (off + j)
  | p => p
/-- an operation without a value -/
def OpU (P : Program) (o : Oper) (G : Gh) (s : St) (a : Act) (w : World) (s1 : St) : Prop :=
  ∃ w' G', (execOp a.eval o).run P w = .ok .skip w' ∧ Rel G' s1 a w' ∧ Fr s.lv G w G' w'
theorem op_store {x y : Operand} {t : TypeId} {s1 : St} (h : Rel G s a w) (hv : uStore P s t y (s.see P 0 x) = some s1) : OpU P ⟨d, .store t x y, ty, pos, af, gd⟩ G s a w s1 := by
  have hx := h.see P 0 x
  unfold uStore at hv
  generalize s.see P 0 x = xv at hv hx
  have fin : ∀ {g off : Nat} {w' : World} {G' : Gh}, a.eval x = .pointer (some ⟨g, off, none⟩) → (storeVar t ⟨g, off, none⟩ (a.eval y)).run P w = .ok () w' → Rel G' s1 a w' → Fr s.lv G w G' w' → OpU P ⟨d, .store t x y, ty, pos, af, gd⟩ G s a w s1 := by
    intro g off w' G' e1 e2 e3 e4
    refine ⟨w', G', ?_, e3, e4⟩
    simp only [execOp, Instr.storeAt, e1, Instr.sureAddr, Sem.run_bind, Sem.run_pure, Result.andThen_ok, e2]
  split at hv
  · rename_i lv u off
    dsimp only at hv
    split at hv
    · rename_i cs ho
      split at hv
      · rename_i hc
        obtain ⟨hl, hb, hz, hok, _⟩ := hc
        obtain ⟨G1, h1, h2, h3, _, h5, h6⟩ := h.all P t y
        have hu : s.all P t y ≠ .undef := by rintro e; rw [e] at hok; cases hok
        have ht : ∀ l, s.all P t y ≠ .tup l := by intro l e; rw [e] at hok; cases hok
        have hs1 : s1 = (s.drop y).setOb lv u (.box (setL cs off (s.all P t y).flat)) := by
          split at hv
          · cases hv
          · cases hv
          · exact (Option.some.inj hv).symm
        subst hs1
        obtain ⟨q1, q2⟩ := (h2.toV ht).cells hu ht
        obtain ⟨g, hg, hxe⟩ := hx.ptr_inv
        rw [← h6] at hg
        obtain ⟨g', hg', hω, en, ety, hbk, hlen, hS, hT⟩ := h1.obj lv u _ (by rw [drop_ob]; exact ho)
        obtain rfl : g' = g := by rw [hg] at hg'; exact (Option.some.inj hg').symm
        have hsz : (a.eval y).cells.size = szOf P t := by omega
        have hone : ∀ z ∈ (a.eval y).cells.toList, z.oneCell' = true := by
          intro z hz'
          obtain ⟨j, hj, rfl⟩ := List.getElem_of_mem hz'
          have hj' : j < (s.all P t y).flat.length := by simp at hj; omega
          have := q2 j hj'
          have hc : cellOk ((s.all P t y).flat.getD j .undef) = true := by
            rw [List.all_eq_true] at hok
            refine hok _ ?_
            rw [List.getD_eq_getElem?_getD, List.getElem?_eq_getElem hj', Option.getD_some]
            exact List.getElem_mem hj'
          have := (this.one hc).2
          rw [getD_array_of (by simpa using hj)] at this
          simpa using this
        have hst := store_run (P := P) hz hbk hsz (off := off) (by omega) hone
        have hnew := setRow_heap w g' en (en.toList.take off ++ (a.eval y).cells.toList ++ en.toList.drop (off + szOf P t)).toArray ety _ hbk
        generalize hw' : w.setRow g' (en.toList.take off ++ (a.eval y).cells.toList ++ en.toList.drop (off + szOf P t)).toArray = w' at hst hnew
        have hoth : ∀ k, k ≠ g' → w'.heap[k]? = w.heap[k]? := fun k hk => by rw [← hw']; exact setRow_other w g' k _ hk
        have hws : w'.heap.size = w.heap.size := by rw [← hw']; simp
        have hlv : (s.drop y).lv = s.lv := drop_lv y
        refine fin hxe hst (h1.setOb (G' := G1.ren (putOF lv u off)) (by rw [drop_ob]; exact ho) hg hω (G1.ren_le _) rfl (fun k p hk hp hr hpk => ⟨hoth k hk, fun _ => rfl, ?_⟩) (fun k j c hc => ?_) (fun k p hp => by rw [hws]; exact ren_lim h1.lim k p hp) (by rw [ren_ω hω]; rfl) ?_) (h3.trans ⟨by rw [← hw']; rfl, by rw [← hw']; rfl, by rw [← hw']; rfl, by rw [hws]; exact Nat.le_refl _, fun k hk hm => ⟨hoth k (by rintro rfl; exact hm _ hω trivial), ?_, fun _ => rfl⟩, fun _ _ _ e => e, fun _ _ _ => rfl⟩)
        · rw [ren_ω hpk]
          cases p with
          | rs c j => exact absurd rfl (hr c j)
          | _ => rfl
        · have hkg : k ≠ g' := by rintro rfl; have : G1.S k j = some c := hc; rw [hS] at this; cases this
          have := h1.imm _ _ _ hc
          simp only [World.cell?, hoth k hkg]
          exact this
        · refine ⟨_, ety, hnew, ?_, hS, fun j hj => ?_⟩
          · rw [length_setL _ _ _ (by omega), size_row (by simp [hsz]) (by omega)]; exact hlen
          · rw [length_setL _ _ _ (by omega)] at hj
            rw [getD_setL _ _ _ _ (by omega), getD_row (by simp [hsz]) (by omega), hl]
            by_cases hin : off ≤ j ∧ j < off + szOf P t
            · rw [if_pos hin, if_pos hin]
              have := q2 (j - off) (by omega)
              have h8 := (this.ren (putOF lv u off) (p' := .cl lv u j) (by simp only [putOF]; congr 1; omega)).mono (G' := G1.ren (putOF lv u off)) (w' := w') (p' := .cl lv u j) ⟨fun _ _ _ e => e, fun _ _ _ e => e⟩ (fun k hk => ⟨hoth k (by
                rintro rfl
                have hω' := ren_ω (f := putOF lv u off) hω
                rw [hk] at hω'
                cases hω'), fun _ => rfl, hk⟩)
              simpa [List.getD_eq_getElem?_getD, Array.getD_eq_getD_getElem?] using h8
            · rw [if_neg hin, if_neg hin]
              exact (hT j hj).mono (G1.ren_le _) (fun k hk => ⟨hoth k (by rintro rfl; rw [hω] at hk; cases hk), fun _ => rfl, by rw [ren_ω hk]; rfl⟩)
        · cases hωk : G1.ω k with
          | none => simp [Gh.ren, hωk]
          | some p =>
            rw [ren_ω hωk]
            cases p with
            | rs c j => exact absurd trivial (hm _ hωk)
            | _ => rfl
      · cases hv
    · cases hv
  · rename_i lv u i sz
    split at hv
    · rename_i v s2 htr
      split at hv
      · rename_i sz' l ho
        split at hv
        · rename_i hc
          obtain ⟨hsz, rfl, hfl, hz, hi⟩ := hc
          obtain rfl := Option.some.inj hv
          obtain ⟨G1, h1, h2, h3, h4, h5, h6⟩ := h.tree htr
          obtain ⟨g, hg, hxe⟩ := hx.eptr_inv
          have hg1 := h2.le.β _ _ _ hg
          obtain ⟨g', hg', hω, en, ety, hbk, hlen, hs, hT, hS⟩ := h1.obj lv u _ ho
          obtain rfl : g' = g := by rw [hg1] at hg'; exact (Option.some.inj hg').symm
          have hS' : ∀ j, G1.S g' j = none := hS
          obtain ⟨q1, q2⟩ := tr_cells h3 h5
          have hszt : szOf P t ≠ 0 := by omega
          have hcz : (a.eval y).cells.size = szOf P t := by omega
          have hbd : i * sz' + sz' ≤ en.size := by
            refine Nat.le_trans ?_ hlen
            calc i * sz' + sz' = (i + 1) * sz' := by rw [Nat.succ_mul]
              _ ≤ l.length * sz' := Nat.mul_le_mul_right _ hi
          have hone : ∀ z ∈ (a.eval y).cells.toList, z.oneCell' = true := by
            intro z hz'
            obtain ⟨j, hj, rfl⟩ := List.getElem_of_mem hz'
            have hj' : j < v.flat.length := by simp at hj; omega
            have h7 := q2 j hj'
            have h8 : pureC (v.flat.getD j .undef) = true := by
              rw [List.all_eq_true] at h4
              refine h4 _ ?_
              rw [List.getD_eq_getElem?_getD, List.getElem?_eq_getElem hj', Option.getD_some]
              exact List.getElem_mem hj'
            have := (cells_one h7 (by intro e; rw [e] at h8; cases h8) (by intro l e; rw [e] at h8; cases h8)).2
            rw [getD_array_of (by simpa using hj)] at this
            simpa using this
          have hst := store_run (P := P) hszt hbk hcz (off := i * sz') (by omega) hone
          have hnew := setRow_heap w g' en (en.toList.take (i * sz') ++ (a.eval y).cells.toList ++ en.toList.drop (i * sz' + szOf P t)).toArray ety _ hbk
          generalize hw' : w.setRow g' (en.toList.take (i * sz') ++ (a.eval y).cells.toList ++ en.toList.drop (i * sz' + szOf P t)).toArray = w' at hst hnew
          have hoth : ∀ k, k ≠ g' → w'.heap[k]? = w.heap[k]? := fun k hk => by rw [← hw']; exact setRow_other w g' k _ hk
          have hws : w'.heap.size = w.heap.size := by rw [← hw']; simp
          refine fin hxe hst (h1.setOb (G' := G1) ho hg1 hω (Le.refl _) rfl (fun k p hk hp hr hpk => ⟨hoth k hk, fun _ => rfl, hpk⟩) (fun k j c hc => ?_) (fun k p hp => by rw [hws]; exact h1.lim k p hp) hω ?_) (h2.fr.trans ⟨by rw [← hw']; rfl, by rw [← hw']; rfl, by rw [← hw']; rfl, by rw [hws]; exact Nat.le_refl _, fun k hk hm => ⟨hoth k (by rintro rfl; exact hm _ hω trivial), rfl, fun _ => rfl⟩, fun _ _ _ e => e, fun _ _ _ => rfl⟩)
          · have hkg : k ≠ g' := by rintro rfl; rw [hS'] at hc; cases hc
            have := h1.imm _ _ _ hc
            simp only [World.cell?, hoth k hkg]
            exact this
          · refine ⟨_, ety, hnew, by rw [size_row (by simp [hcz]) (by omega), List.length_set]; exact hlen, fun z hz' => ?_, fun p q hp hq => ?_, hS⟩
            · rcases List.mem_or_eq_of_mem_set hz' with hz' | rfl
              · exact hs z hz'
              · exact ⟨hfl, h4⟩
            · rw [List.length_set] at hp
              rw [getD_row (by simp [hcz]) (by omega)]
              by_cases hpi : p = i
              · subst hpi
                have e1 : (l.set p v).getD p .undef = v := by simp [List.getD_eq_getElem?_getD, hp]
                rw [if_pos (by omega), e1]
                have := q2 q (by omega)
                simpa [List.getD_eq_getElem?_getD, Array.getD_eq_getD_getElem?, show p * sz' + q - p * sz' = q by omega] using this
              · have e1 : (l.set i v).getD p .undef = l.getD p .undef := by simp [List.getD_eq_getElem?_getD, List.getElem?_set, Ne.symm hpi]
                have hne : ¬ (i * sz' ≤ p * sz' + q ∧ p * sz' + q < i * sz' + szOf P t) := by
                  rintro ⟨a1, a2⟩
                  rcases Nat.lt_or_gt_of_ne hpi with hlt | hgt
                  · have := cell_lt hlt hq; omega
                  · have := Nat.mul_le_mul_right sz' (show i + 1 ≤ p from hgt)
                    rw [Nat.succ_mul] at this
                    omega
                rw [if_neg hne, e1]
                exact hT p q hp hq
        · cases hv
      · cases hv
    · cases hv
  · cases hv
end Go.Ev
