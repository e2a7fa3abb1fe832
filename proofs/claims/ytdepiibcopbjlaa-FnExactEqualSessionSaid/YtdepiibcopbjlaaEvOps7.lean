/- Trees out of values; literals, makes, appends. -/
import Derived.Test.YtdepiibcopbjlaaEvOps6
import Derived.Great.BuildSlice
import Derived.Laws.AppendOwn
import Derived.Laws.MakeOwn
namespace Go.Ev
open Go
set_option linter.unusedVariables false
set_option linter.unusedSimpArgs false
variable {P : Program} {G : Gh} {s : St} {a : Act} {w : World} {o : Oper}
variable {d : Option Nat} {ty : TypeId} {pos : String} {af : Array Edge} {gd : Option (Nat × Bool)}

def Gh.ice (G : Gh) (g n : Nat) (cs : Array Value) : Gh := { G with S := fun k j => if k = g ∧ j < n then cs[j]? else G.S k j }
/-- a state told anew: the tmps as they were, nothing of its own turned -/
structure Still (G : Gh) (s : St) (w : World) (G' : Gh) (s' : St) : Prop where
  fr : Fr s.lv G w G' w
  le : Le G G'
  ω : G'.ω = G.ω
  lv : s'.lv = s.lv
  t : s'.t = s.t
  n : s'.n = s.n
  own : ∀ k c j, G.ω k = some (.rs c j) → ∀ i, G'.S k i = G.S k i
theorem Still.refl : Still G s w G s := ⟨Fr.refl _ _ _, Le.refl _, rfl, rfl, rfl, rfl, fun _ _ _ _ _ => rfl⟩
theorem Still.trans {G1 G2 : Gh} {s1 s2 : St} (h : Still G s w G1 s1) (k : Still G1 s1 w G2 s2) : Still G s w G2 s2 :=
  ⟨h.fr.trans (by have := k.fr; rw [h.lv] at this; exact this), ⟨fun g j c e => k.le.S _ _ _ (h.le.S _ _ _ e), fun l t g e => k.le.β _ _ _ (h.le.β _ _ _ e)⟩, k.ω.trans h.ω, k.lv.trans h.lv, k.t.trans h.t, k.n.trans h.n,
    fun g c j e i => (k.own g c j (by rw [h.ω]; exact e) i).trans (h.own g c j e i)⟩
theorem Rel.frz (h : Rel G s a w) (v : V) : ∃ G', Rel G' (s.frz v) a w ∧ Still G s w G' (s.frz v) := by
  unfold St.frz
  split
  · rename_i lv t n
    split
    · rename_i sz l ho
      obtain ⟨g, hg, hω, en, ety, hb, hl, hs, hT, hS⟩ := h.obj lv t _ ho
      have hS' : ∀ j, G.S g j = none := hS
      have hle : Le G (G.ice g (l.length * sz) en) := ⟨fun k j c hc => by
        show (if k = g ∧ j < _ then _ else _) = _
        rw [if_neg (by rintro ⟨rfl, _⟩; rw [hS' j] at hc; cases hc)]; exact hc, fun _ _ _ e => e⟩
      have hoth : ∀ k, k ≠ g → ∀ j, (G.ice g (l.length * sz) en).S k j = G.S k j := fun k hk j => by
        show (if k = g ∧ j < _ then _ else _) = _
        rw [if_neg (fun e => hk e.1)]
      refine ⟨G.ice g (l.length * sz) en, h.setOb ho hg hω hle rfl (fun k p hk _ _ hpk => ⟨rfl, hoth k hk, hpk⟩) (fun k j c hc => ?_) h.lim hω ⟨en, ety, hb, hl, hs, fun i j hi hj => hle.tr (hT i j hi hj), ?_⟩,
        ⟨⟨rfl, rfl, rfl, Nat.le_refl _, fun k hk hm => ⟨rfl, rfl, hoth k (by rintro rfl; exact hm _ hω trivial)⟩, hle.S, fun _ _ _ => rfl⟩, hle, rfl, setOb_lv _ _ _, setOb_t _ _ _, setOb_n _ _ _, fun k c j e => hoth k (by rintro rfl; rw [hω] at e; cases e)⟩⟩
      · have hc' : (if k = g ∧ j < l.length * sz then en[j]? else G.S k j) = some c := hc
        split at hc'
        · rename_i hk; obtain ⟨rfl, _⟩ := hk; simp only [World.cell?, hb]; exact hc'
        · exact h.imm _ _ _ hc'
      · show ∀ j, j < l.length * sz → (if g = g ∧ j < l.length * sz then en[j]? else G.S g j) = some (en.getD j Go.undef)
        intro j hj
        rw [if_pos ⟨rfl, hj⟩, Array.getElem?_eq_getElem (by omega), getD_array_of (by omega)]
    · exact ⟨G, h, Still.refl⟩
  · exact ⟨G, h, Still.refl⟩
theorem Tr.vview {S β} {v : V} {x : Value} (h : Tr S β v x) : Tr S β v.view x := by
  have : v.view = v := by
    cases v
    case agg l =>
      obtain ⟨cs, _, hl, hT⟩ := h.agg_inv
      simp only [V.view, V.agg.injEq]
      refine List.ext_getElem (by simp) fun i h1 h2 => ?_
      have h3 := hT i h2
      simp only [List.getD_eq_getElem?_getD, List.getElem?_eq_getElem h2, Option.getD_some] at h3
      rw [List.getElem_map]
      generalize l[i] = y at h3
      cases y <;> try rfl
      rename_i own sz m
      cases own
      · rfl
      · cases h3
    case slc own sz l =>
      cases own
      · rfl
      · cases h
    case tup l => cases h
    all_goals rfl
  rw [this]; exact h
theorem tree_tr (h : Rel G s a w) {v u : V} {x : Value} (hv : Tr G.S G.β v x) (ht : tree s v = some u) : Tr G.S G.β u x ∧ u.flat.all pureC = true ∧ u ≠ .undef ∧ ∀ l, u ≠ .tup l := by
  unfold tree at ht
  split at ht
  · rename_i lv t n
    split at ht
    · rename_i sz l ho
      split at ht
      · rename_i hn
        obtain rfl := Option.some.inj ht
        obtain ⟨g, hg, hω, en, ety, hb, hl, hs, hT, hS⟩ := h.obj lv t _ ho
        obtain ⟨g', cap, hg', hc, hx⟩ := hv.aref_inv
        obtain rfl : g' = g := by rw [hg] at hg'; exact (Option.some.inj hg').symm
        subst hn
        have hS' : ∀ j, j < l.length * sz → G.S g' j = some (en.getD j Go.undef) := hS
        refine ⟨?_, rfl, (by intro e; cases e), fun l e => by cases e⟩
        rw [hx]
        exact Tr.slc sz l g' 0 cap (fun i j => en.getD (i * sz + j) Go.undef) hc hs (fun i j hi hj => by rw [Nat.zero_add]; exact hS' _ (cell_lt hi hj)) hT
      · cases ht
    · cases ht
  · rename_i l
    split at ht
    · rename_i hp
      obtain rfl := Option.some.inj ht
      exact ⟨hv.vview, hp, (by intro e; cases e), fun l e => by cases e⟩
    · cases ht
  · rename_i hna hng
    split at ht
    · rename_i hp
      obtain rfl := Option.some.inj ht
      have hview : v.view = v.viewC := by
        cases v <;> first | rfl | (cases hv; done) | exact absurd rfl (hng _)
      have hfl : v.viewC.flat = [v.viewC] := by
        cases v <;> first | rfl | exact absurd rfl (hng _)
      refine ⟨hview ▸ hv.vview, by rw [hfl]; simpa using hp, ?_, fun l e => ?_⟩
      · intro e; rw [e] at hp; cases hp
      · rw [e] at hp; cases hp
    · cases ht
theorem Rel.tree (h : Rel G s a w) {ty : TypeId} {x : Operand} {v : V} {s1 : St} (ht : s.tree P ty x = some (v, s1)) : ∃ G', Rel G' s1 a w ∧ Still G s w G' s1 ∧ Tr G'.S G'.β v (a.eval x) ∧ v.flat.all pureC = true ∧ v ≠ .undef ∧ ∀ l, v ≠ .tup l := by
  unfold St.tree at ht
  obtain ⟨u, hu, he⟩ := Option.map_eq_some_iff.1 ht
  obtain ⟨rfl, rfl⟩ := Prod.mk.inj he
  obtain ⟨G', h1, h2⟩ := h.frz (s.see P ty x)
  obtain ⟨k1, k2, k3, k4⟩ := tree_tr h1 (h2.le.tr (h.see P ty x)) hu
  exact ⟨G', h1, h2, k1, k2, k3, k4⟩
theorem Rel.trees (P : Program) : ∀ (xs : List (TypeId × Operand)) {G : Gh} {s s1 : St} {vs : List V}, Rel G s a w → St.trees P s xs = some (vs, s1) →
    ∃ G', Rel G' s1 a w ∧ Still G s w G' s1 ∧ vs.length = xs.length ∧ ∀ i, i < vs.length → Tr G'.S G'.β (vs.getD i .undef) ((xs.map fun x => a.eval x.2).getD i Go.undef) ∧ (vs.getD i .undef).flat.all pureC = true ∧ vs.getD i .undef ≠ .undef ∧ ∀ l, vs.getD i .undef ≠ .tup l := by
  intro xs
  induction xs with
  | nil =>
    intro G s s1 vs h ht
    simp only [St.trees, Option.some.injEq, Prod.mk.injEq] at ht
    obtain ⟨rfl, rfl⟩ := ht
    exact ⟨G, h, Still.refl, rfl, fun i hi => absurd hi (Nat.not_lt_zero _)⟩
  | cons x xs ih =>
    intro G s s1 vs h ht
    obtain ⟨ty, x⟩ := x
    simp only [St.trees] at ht
    split at ht
    · rename_i v s2 hv
      split at ht
      · rename_i vs' s3 hvs
        simp only [Option.some.injEq, Prod.mk.injEq] at ht
        obtain ⟨rfl, rfl⟩ := ht
        obtain ⟨G1, h1, h2, h3, h4, h5, h6⟩ := h.tree hv
        obtain ⟨G2, k1, k2, k3, k4⟩ := ih h1 hvs
        refine ⟨G2, k1, h2.trans k2, by simp [k3], fun i hi => ?_⟩
        cases i with
        | zero => exact ⟨k2.le.tr h3, h4, h5, h6⟩
        | succ i => exact k4 i (by simpa using hi)
      · cases ht
    · cases ht
/-! ### literals -/
theorem Tr.viewC_eq {S β} {v : V} {x : Value} (h : Tr S β v x) : v.viewC = v := by
  cases v <;> try rfl
  rename_i own sz m
  cases own
  · rfl
  · cases h
theorem tr_cells {v : V} {x : Value} (h : Tr G.S G.β v x) (hu : v ≠ .undef) : v.flat.length = x.cells.size ∧ ∀ j, j < v.flat.length → Tr G.S G.β (v.flat.getD j .undef) (x.cells.getD j Go.undef) := by
  have ht : ∀ l, v ≠ .tup l := by rintro l rfl; cases h
  obtain ⟨h1, h2⟩ := (OwnV.of_tr' (w := default) (p := fun _ => .rs 0 0) h).cells hu ht
  refine ⟨h1, fun j hj => ?_⟩
  have h3 := h2 j hj
  have h4 : v.flat.getD j .undef = (v.flat.getD j .undef).viewC := by
    rcases flat_agg_or v with ⟨l, rfl⟩ | ⟨hna, hf⟩
    · obtain ⟨cs, _, hl, hT⟩ := h.agg_inv
      exact (hT j hj).viewC_eq.symm
    · rw [hf]
      have : j = 0 := by rw [hf] at hj; simpa using hj
      subst this
      exact h.viewC_eq.symm
  rw [h4]
  exact h3.view
theorem inOrder_zip (f : Operand → Value) : ∀ (l : List (Nat × Operand)) (k : Nat), inOrder k l = true → l.map (fun p => (p.1, f p.2)) = ((l.map fun p => f p.2).zipIdx k).map fun x => (x.2, x.1) := by
  intro l
  induction l with
  | nil => intro k _; rfl
  | cons p l ih =>
    intro k h
    simp only [inOrder] at h
    split at h
    · rename_i hp
      simp only [List.map_cons, List.zipIdx_cons]
      rw [ih (k + 1) h, hp]
    · cases h
/-- trees side by side -/
theorem laid_of {sz : Nat} (hz : 0 < sz) {vs : List V} {xs : List Value} (hl : vs.length = xs.length) (hT : ∀ i, i < vs.length → Tr G.S G.β (vs.getD i .undef) (xs.getD i Go.undef) ∧ (vs.getD i .undef).flat.all pureC = true ∧ vs.getD i .undef ≠ .undef)
    (hf : ∀ v ∈ vs, v.flat.length = sz) : Laid G sz vs (xs.flatMap fun v => v.cells.toList).toArray ∧ (∀ x ∈ xs, x.cells.size = sz) ∧ (xs.flatMap fun v => v.cells.toList).length = vs.length * sz := by
  have hsz : ∀ x ∈ xs, x.cells.size = sz := by
    intro x hx
    obtain ⟨i, hi, rfl⟩ := List.getElem_of_mem hx
    obtain ⟨h1, h2, h3⟩ := hT i (by omega)
    have h4 := (tr_cells h1 h3).1
    rw [List.getD_eq_getElem?_getD, List.getElem?_eq_getElem (by omega), Option.getD_some] at h4
    rw [List.getD_eq_getElem?_getD, List.getElem?_eq_getElem hi, Option.getD_some] at h4
    rw [← h4]
    exact hf _ (List.getElem_mem _)
  have hlen : ∀ (ys : List Value), (∀ x ∈ ys, x.cells.size = sz) → (ys.flatMap fun v => v.cells.toList).length = ys.length * sz := by
    intro ys
    induction ys with
    | nil => intro _; simp
    | cons y ys ih =>
      intro h
      rw [List.flatMap_cons, List.length_append, ih (fun x hx => h x (List.mem_cons_of_mem _ hx)), List.length_cons, Nat.succ_mul, Array.length_toList, h y List.mem_cons_self, Nat.add_comm]
  refine ⟨⟨by rw [List.size_toArray, hlen xs hsz, hl]; exact Nat.le_refl _, fun v hv => ⟨hf v hv, ?_⟩, fun i j hi hj => ?_⟩, hsz, by rw [hlen xs hsz, hl]⟩
  · obtain ⟨i, hi, rfl⟩ := List.getElem_of_mem hv
    have := (hT i hi).2.1
    rwa [List.getD_eq_getElem?_getD, List.getElem?_eq_getElem hi, Option.getD_some] at this
  · obtain ⟨h1, h2, h3⟩ := hT i hi
    obtain ⟨h4, h5⟩ := tr_cells h1 h3
    have hi' : i < xs.length := by omega
    have e1 : xs.getD i Go.undef = xs[i] := by rw [List.getD_eq_getElem?_getD, List.getElem?_eq_getElem hi', Option.getD_some]
    rw [e1] at h5 h4
    have hj' : j < (vs.getD i .undef).flat.length := by rw [h4, hsz _ (List.getElem_mem _)]; exact hj
    have h6 := h5 j hj'
    have h7 : (xs.flatMap fun v => v.cells.toList).toArray.getD (i * sz + j) Go.undef = xs[i].cells.getD j Go.undef := by
      have hg := Great.flat_get hz xs hsz (i * sz + j)
      have d1 : (i * sz + j) / sz = i := by rw [Nat.mul_comm, Nat.mul_add_div hz, Nat.div_eq_of_lt hj, Nat.add_zero]
      have d2 : (i * sz + j) % sz = j := by rw [Nat.mul_comm, Nat.mul_add_mod, Nat.mod_eq_of_lt hj]
      rw [d1, d2, List.getElem?_eq_getElem hi', Option.bind_some] at hg
      rw [Array.getD_eq_getD_getElem?, Array.getD_eq_getD_getElem?, ← hg]
      simp
    rw [h7]
    exact h6
theorem buildSlice_run {t e : TypeId} {n : Nat} {ps : Array (Nat × Operand)} {z : List V} (hu : P.underlying t = some (.slice e)) (hz : szOf P e ≠ 0) (hzero : zero P e = some z) (ho : inOrder 0 ps.toList = true) (hn : ps.size = n) (hsm : n * szOf P e ≤ 16777216)
    (hc : ∀ x ∈ ps.toList.map fun p => a.eval p.2, x.cells.size = szOf P e) (w : World) :
    (Instr.buildSlice t n (ps.map fun (i, x) => (i, a.eval x))).run P w = .ok (.slice (some ⟨w.heap.size, 0, none⟩) n n) (w.alloc (.cells ((ps.toList.map fun p => a.eval p.2).flatMap fun v => v.cells.toList).toArray e)) := by
  obtain ⟨i, d, h1, h2, h3, h4⟩ := szOf_ne hz
  have hparts : (ps.map fun (i, x) => (i, a.eval x)).toList = ((ps.toList.map fun p => a.eval p.2).zipIdx 0).map fun x => (x.2, x.1) := by
    rw [Array.toList_map]
    exact inOrder_zip a.eval ps.toList 0 ho
  obtain ⟨zi, hzi⟩ : ∃ zv, i.zero = some zv := by
    unfold zero at hzero
    cases hh : i.zero with
    | none => simp [h1, hh] at hzero
    | some zv => exact ⟨zv, rfl⟩
  by_cases hp : n * i.size = 0
  · have hn0 : n = 0 := by
      rcases Nat.mul_eq_zero.1 hp with h | h
      · exact h
      · omega
    have : ps = #[] := by
      apply Array.eq_empty_of_size_eq_zero
      omega
    subst this
    subst hn0
    simp [Instr.buildSlice, run_underlying hu, sizeOf, typeInfo, h1, Instr.fill, Go.newRow]
    rw [show Array.map (fun x => (default : Value)) (Array.range 0) = #[] from Array.eq_empty_of_size_eq_zero (by simp)]
  · refine run_buildSlice w t e n _ _ i zi hu h1 hzi (by rw [← h3]; omega) hp ?_
    rw [hparts, ← h3]
    exact Great.fill_whole (by omega) _ _ hc (by simp [hn])
theorem drop_dst {dd : Nat} (s : St) (v : V) : s = s := rfl
/-- what a literal's parts come to -/
theorem parts_laid {t e : TypeId} {n : Nat} {ps : Array (Nat × Operand)} {vs : List V} {s1 : St} (h : Rel G s a w) (hz : szOf P e ≠ 0) (ht : St.trees P s (ps.toList.map fun p => (e, p.2)) = some (vs, s1)) (hf : vs.all (fun v => v.flat.length == szOf P e) = true) :
    ∃ G', Rel G' s1 a w ∧ Still G s w G' s1 ∧ vs.length = ps.size ∧ Laid G' (szOf P e) vs ((ps.toList.map fun p => a.eval p.2).flatMap fun v => v.cells.toList).toArray ∧ (∀ x ∈ ps.toList.map fun p => a.eval p.2, x.cells.size = szOf P e) ∧
      (((ps.toList.map fun p => a.eval p.2).flatMap fun v => v.cells.toList).toArray).size = vs.length * szOf P e := by
  obtain ⟨G', h1, h2, h3, h4⟩ := Rel.trees P _ h ht
  have hxs : (ps.toList.map fun p => (e, p.2)).map (fun x => a.eval x.2) = ps.toList.map fun p => a.eval p.2 := by rw [List.map_map]; rfl
  rw [hxs] at h4
  have hl : vs.length = ps.size := by simpa using h3
  obtain ⟨k1, k2, k3⟩ := laid_of (G := G') (sz := szOf P e) (by omega) (vs := vs) (xs := ps.toList.map fun p => a.eval p.2) (by simpa using hl) (fun i hi => ⟨(h4 i hi).1, (h4 i hi).2.1, (h4 i hi).2.2.1⟩) (fun v hv => by
    rw [List.all_eq_true] at hf; simpa using hf v hv)
  exact ⟨G', h1, h2, hl, k1, k2, by rw [List.size_toArray]; exact k3⟩
theorem op_buildSlice {t e : TypeId} {n : Nat} {ps : Array (Nat × Operand)} {vs z : List V} {s1 : St} (h : Rel G s a w) (hu : P.underlying t = some (.slice e)) (hz : szOf P e ≠ 0) (hzero : zero P e = some z) (ho : inOrder 0 ps.toList = true) (hn : ps.size = n) (hsm : n * szOf P e ≤ 16777216)
    (ht : St.trees P s (ps.toList.map fun p => (e, p.2)) = some (vs, s1)) (hf : vs.all (fun v => v.flat.length == szOf P e) = true) : OpOk P ⟨d, .buildSlice t n ps, ty, pos, af, gd⟩ G s a w (.slc true (szOf P e) vs) s1 := by
  obtain ⟨G1, h1, h2, h3, h4, h5, h6⟩ := parts_laid (t := t) (n := n) h hz ht hf
  obtain ⟨G2, k1, k2, k3⟩ := h1.newRow (cap := n) h4 (by rw [h6, h3, hn]) (by omega) e
  refine ⟨.slice (some ⟨w.heap.size, 0, none⟩) n n, _, G2, ?_, k1, ?_, h2.fr.trans (by rw [h2.lv] at k3; exact k3)⟩
  · simp only [execOp]
    exact run_val (buildSlice_run hu hz hzero ho hn hsm h5 w)
  · rw [show vs.length = n by omega] at k2
    exact k2
theorem op_buildArr {t e : TypeId} {n dd : Nat} {ps : Array (Nat × Operand)} {vs z : List V} {s1 : St} (h : Rel G s a w) (hu : P.underlying t = some (.slice e)) (hz : szOf P e ≠ 0) (hzero : zero P e = some z) (ho : inOrder 0 ps.toList = true) (hn : ps.size = n) (hsm : n * szOf P e ≤ 16777216)
    (ht : St.trees P s (ps.toList.map fun p => (e, p.2)) = some (vs, s1)) (hf : vs.all (fun v => v.flat.length == szOf P e) = true) (hd : s1.b dd = none) :
    OpOk P ⟨d, .buildSlice t n ps, ty, pos, af, gd⟩ G s a w (.aref s.lv dd n) { s1 with b := upd s1.b dd (some (.arr false (szOf P e) vs)) } := by
  obtain ⟨G1, h1, h2, h3, h4, h5, h6⟩ := parts_laid (t := t) (n := n) h hz ht hf
  obtain ⟨k1, k2, k3⟩ := h1.allocOb hd (.cells ((ps.toList.map fun p => a.eval p.2).flatMap fun v => v.cells.toList).toArray e) (.arr false (szOf P e) vs) (fun w' hw' hle hs hS => ⟨_, e, by rw [hw']; exact heap_alloc_new _ _, (h4.mono hle).1, (h4.mono hle).2.1, (h4.mono hle).2.2, hS⟩)
  rw [h2.lv] at k1 k2 k3
  refine ⟨.slice (some ⟨w.heap.size, 0, none⟩) n n, _, _, ?_, k1, OwnS.of_tr' (Tr.aref _ _ _ _ _ k3 (Nat.le_refl _)), h2.fr.trans k2⟩
  simp only [execOp]
  exact run_val (buildSlice_run hu hz hzero ho hn hsm h5 w)
/-! ### make -/
theorem dflt_tr {t e : TypeId} (hu : P.underlying t = some (.slice e)) {z : List V} (hz : zero P e = some z) (hlen : z.length = szOf P e) (hn : szOf P e ≠ 0) (hfl : (dflt P t).flat.length = szOf P e) :
    ∃ zv, (∀ w : World, (zeroValue e).run P w = .ok zv w) ∧ zv.cells.size = szOf P e ∧ (dflt P t).flat.length = szOf P e ∧ ((dflt P t).flat.all pureC = true) ∧ ∀ j, j < szOf P e → Tr G.S G.β ((dflt P t).flat.getD j .undef) (zv.cells.getD j Go.undef) := by
  obtain ⟨zv, h1, h2, h3, _⟩ := zero_spec hz
  have hp : ∀ v (x : Value), agree v x = true → pureC v.viewC = true ∧ (∀ l, v ≠ .agg l) ∧ (∀ l, v ≠ .tup l) := by
    intro v x h
    unfold agree at h
    split at h
    all_goals first | exact ⟨rfl, (fun l e => by cases e), fun l e => by cases e⟩ | cases h
  have hd : (dflt P t).flat = z.map V.viewC := by
    unfold dflt
    have he : elemOf P t = e := by simp [elemOf, hu]
    rw [he, hz, Option.getD_some]
    cases ha : isAgg P e
    · obtain ⟨i, d, k1, k2, k3, k4⟩ := szOf_ne hn
      cases z with
      | nil => simp at hlen; omega
      | cons v z =>
        have h4 := hp _ _ (h3 0 (by simp))
        simp only [List.getD_cons_zero] at h4
        cases z with
        | nil =>
          simp only [pack, Bool.false_eq_true, if_false, List.headD_cons, List.map_cons, List.map_nil]
          cases v
          case agg l => exact absurd rfl (h4.2.1 l)
          case tup l => exact absurd rfl (h4.2.2 l)
          all_goals rfl
        | cons u z =>
          exfalso
          have : (dflt P t).flat.length = 1 := by
            unfold dflt
            rw [he, hz, Option.getD_some, ha]
            simp only [pack, Bool.false_eq_true, if_false, List.headD_cons]
            cases v
            case agg l => exact absurd rfl (h4.2.1 l)
            case tup l => exact absurd rfl (h4.2.2 l)
            all_goals rfl
          simp only [List.length_cons] at hlen
          omega
    · rfl
  refine ⟨zv, h1, by omega, by rw [hd, List.length_map]; exact hlen, ?_, fun j hj => ?_⟩
  · rw [hd, List.all_eq_true]
    intro x hx
    obtain ⟨y, hy, rfl⟩ := List.mem_map.1 hx
    obtain ⟨j, hj, rfl⟩ := List.getElem_of_mem hy
    have := h3 j hj
    rw [List.getD_eq_getElem?_getD, List.getElem?_eq_getElem hj, Option.getD_some] at this
    exact (hp _ _ this).1
  · rw [hd, getD_viewC]
    exact (agree_tr (G := G) (w := default) (h3 j (by omega)) (.rs 0 0)).view
theorem made_laid {t e : TypeId} (hu : P.underlying t = some (.slice e)) {z : List V} (hz : zero P e = some z) (hlen : z.length = szOf P e) (hn : szOf P e ≠ 0) (hfl : (dflt P t).flat.length = szOf P e) (n m : Nat) (hnm : n ≤ m) :
    ∃ i zv, P.info? e = some i ∧ i.zero = some zv ∧ i.size = szOf P e ∧ Laid G (szOf P e) (List.replicate n (dflt P t)) (madeCells zv.cells (m * szOf P e)) ∧ (madeCells zv.cells (m * szOf P e)).size = m * szOf P e := by
  obtain ⟨i, d, h1, h2, h3, h4⟩ := szOf_ne hn
  obtain ⟨zv, k1, k2, k3, k4, k5⟩ := dflt_tr (G := G) hu hz hlen hn hfl
  have hzi : i.zero = some zv := by
    have := k1 default
    simp only [zeroValue, Sem.run_bind, typeInfo, run_program, Result.andThen_ok, h1, Sem.run_pure] at this
    cases hh : i.zero with
    | none => simp [hh] at this
    | some y => simp [hh] at this; rw [this]
  have hsz : (madeCells zv.cells (m * szOf P e)).size = m * szOf P e := by simp [madeCells]
  refine ⟨i, zv, h1, hzi, h3.symm, ⟨?_, fun x hx => ?_, fun p q hp hq => ?_⟩, hsz⟩
  · rw [hsz, List.length_replicate]; exact Nat.mul_le_mul_right _ hnm
  · rw [List.eq_of_mem_replicate hx]; exact ⟨k3, k4⟩
  · rw [List.length_replicate] at hp
    have e1 : (List.replicate n (dflt P t)).getD p .undef = dflt P t := by simp [List.getD_eq_getElem?_getD, hp]
    rw [e1]
    have h6 := cell_lt (Nat.lt_of_lt_of_le hp hnm) hq
    have e2 : (madeCells zv.cells (m * szOf P e)).getD (p * szOf P e + q) Go.undef = zv.cells.getD q Go.undef := by
      have hq' : q < zv.cells.size := by omega
      have hmod : (p * szOf P e + q) % zv.cells.size = q := by rw [k2, Nat.mul_comm, Nat.mul_add_mod, Nat.mod_eq_of_lt hq]
      simp [madeCells, Array.getD, h6, hmod, hq']
    rw [e2]
    exact k5 q hq
theorem make_run {t e : TypeId} {i : TypeInfo} {zv : Value} (hu : P.underlying t = some (.slice e)) (hi : P.info? e = some i) (hz : i.zero = some zv) (kl kc : IntKind) {n m : Int} (h0 : 0 ≤ n) (hnm : n ≤ m) (hb0 : P.bytesOf e ≠ 0) (hb : m * P.bytesOf e ≤ 140737488355328) (w : World) :
    (Instr.makeSlice t (.int kl n) (.int kc m)).run P w = .ok (.slice (some ⟨w.heap.size, 0, none⟩) n.toNat m.toNat) (w.alloc (.cells (madeCells zv.cells (m.toNat * i.size)) e)) := by
  have hbe : P.bytesOf e = i.bytes := by simp [Program.bytesOf, hi]
  rw [hbe] at hb hb0
  have h1 : m ≤ m * i.bytes := by
    have : (1 : Int) ≤ i.bytes := by omega
    calc m = m * 1 := by omega
      _ ≤ m * i.bytes := Int.mul_le_mul_of_nonneg_left this (by omega)
  exact run_make w t e i zv hu hi hz kl kc n m h0 hnm (by rw [Int.mul_comm]; omega) (by omega)
theorem op_make {t e : TypeId} {x y : Operand} {z : List V} {kl kc : IntKind} {n m : Int} (h : Rel G s a w) (hu : P.underlying t = some (.slice e)) (hx : s.see P 0 x = .int kl n) (hy : s.see P 0 y = .int kc m) (hz : zero P e = some z) (hlen : z.length = szOf P e) (hn : szOf P e ≠ 0) (hfl : (dflt P t).flat.length = szOf P e)
    (hb0 : P.bytesOf e ≠ 0) (h0 : 0 ≤ n) (hnm : n ≤ m) (hb : m * P.bytesOf e ≤ 140737488355328) : OpOk P ⟨d, .makeSlice t x y, ty, pos, af, gd⟩ G s a w (.slc true (szOf P e) (List.replicate n.toNat (dflt P t))) s := by
  obtain ⟨i, zv, h1, h2, h3, h4, h5⟩ := made_laid (G := G) hu hz hlen hn hfl n.toNat m.toNat (by omega)
  obtain ⟨G2, k1, k2, k3⟩ := h.newRow (cap := m.toNat) h4 h5 (by simp; omega) e
  have e1 := h.see P 0 x
  have e2 := h.see P 0 y
  rw [hx] at e1
  rw [hy] at e2
  refine ⟨.slice (some ⟨w.heap.size, 0, none⟩) n.toNat m.toNat, _, G2, ?_, k1, ?_, k3⟩
  · simp only [execOp]
    refine run_val ?_
    rw [e1.int_inv, e2.int_inv, make_run hu h1 h2 kl kc h0 hnm hb0 hb, h3]
  · rw [List.length_replicate] at k2; exact k2
theorem op_makeArr {t e : TypeId} {dd : Nat} {x y : Operand} {z : List V} {kl kc : IntKind} {n m : Int} (h : Rel G s a w) (hu : P.underlying t = some (.slice e)) (hx : s.see P 0 x = .int kl n) (hy : s.see P 0 y = .int kc m) (hz : zero P e = some z) (hlen : z.length = szOf P e) (hn : szOf P e ≠ 0) (hfl : (dflt P t).flat.length = szOf P e)
    (hb0 : P.bytesOf e ≠ 0) (h0 : 0 ≤ n) (hnm : n ≤ m) (hb : m * P.bytesOf e ≤ 140737488355328) (hd : s.b dd = none) :
    OpOk P ⟨d, .makeSlice t x y, ty, pos, af, gd⟩ G s a w (.aref s.lv dd n.toNat) { s with b := upd s.b dd (some (.arr false (szOf P e) (List.replicate n.toNat (dflt P t)))) } := by
  obtain ⟨i, zv, h1, h2, h3, h4, h5⟩ := made_laid (G := G) hu hz hlen hn hfl n.toNat m.toNat (by omega)
  obtain ⟨k1, k2, k3⟩ := h.allocOb hd (.cells (madeCells zv.cells (m.toNat * szOf P e)) e) (.arr false (szOf P e) (List.replicate n.toNat (dflt P t))) (fun w' hw' hle hs hS => ⟨_, e, by rw [hw']; exact heap_alloc_new _ _, (h4.mono hle).1, (h4.mono hle).2.1, (h4.mono hle).2.2, hS⟩)
  have e1 := h.see P 0 x
  have e2 := h.see P 0 y
  rw [hx] at e1
  rw [hy] at e2
  refine ⟨.slice (some ⟨w.heap.size, 0, none⟩) n.toNat m.toNat, _, _, ?_, k1, OwnS.of_tr' (Tr.aref _ _ _ _ _ k3 (by omega)), k2⟩
  simp only [execOp]
  refine run_val ?_
  rw [e1.int_inv, e2.int_inv, make_run hu h1 h2 kl kc h0 hnm hb0 hb, h3]
end Go.Ev
