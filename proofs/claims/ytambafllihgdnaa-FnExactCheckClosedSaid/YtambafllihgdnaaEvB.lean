/- Trees out of values; literals, makes, appends. append. Stores; parts of a tuple; structs. Parts of a tuple; structs and arrays. Maps. Lists that nobody else sees: grown, settled, made objects. Lists that nobody else sees, settled and made objects. The steps put together. A function's end. -/
import Derived.Great.BuildSlice
import Derived.Laws.AppendOwn
import Derived.Laws.MakeOwn
import Derived.Laws.Sem
import Derived.Test.YtambafllihgdnaaEvA
set_option linter.unusedVariables false
set_option linter.unusedSimpArgs false
namespace Go.Ev
open Go
set_option linter.unusedVariables false
set_option linter.unusedSimpArgs false
variable {P : Program} {G : Gh} {s : St} {a : Act} {w : World} {o : Oper}
variable {d : Option Nat} {ty : TypeId} {pos : String} {af : Array Edge} {gd : Option (Nat × Bool)}

def Gh.ice (G : Gh) (g n : Nat) (cs : Array Value) : Gh := { G with S := fun k j => if k = g ∧ j < n then cs[j]? else G.S k j }
/-- a state told anew: the tmps as they were, nothing of its own turned -/
structure Still (G : Gh) (s : St) (w : World) (G' : Gh) (s' : St) : Prop where
  fr : Fr s.lv G w G' w
  le : Le G G'
  ω : G'.ω = G.ω
  lv : s'.lv = s.lv
  t : s'.t = s.t
  n : s'.n = s.n
  own : ∀ k c j, G.ω k = some (.rs c j) → ∀ i, G'.S k i = G.S k i
theorem Still.refl : Still G s w G s := ⟨Fr.refl _ _ _, Le.refl _, rfl, rfl, rfl, rfl, fun _ _ _ _ _ => rfl⟩
theorem Still.trans {G1 G2 : Gh} {s1 s2 : St} (h : Still G s w G1 s1) (k : Still G1 s1 w G2 s2) : Still G s w G2 s2 :=
  ⟨h.fr.trans (by have := k.fr; rw [h.lv] at this; exact this), ⟨fun g j c e => k.le.S _ _ _ (h.le.S _ _ _ e), fun l t g e => k.le.β _ _ _ (h.le.β _ _ _ e)⟩, k.ω.trans h.ω, k.lv.trans h.lv, k.t.trans h.t, k.n.trans h.n,
    fun g c j e i => (k.own g c j (by rw [h.ω]; exact e) i).trans (h.own g c j e i)⟩
theorem Rel.frz (h : Rel G s a w) (v : V) : ∃ G', Rel G' (s.frz v) a w ∧ Still G s w G' (s.frz v) := by
  unfold St.frz
  split
  · rename_i lv t n
    split
    · rename_i sz l ho
      obtain ⟨g, hg, hω, en, ety, hb, hl, hs, hT, hS⟩ := h.obj lv t _ ho
      have hS' : ∀ j, G.S g j = none := hS
      have hle : Le G (G.ice g (l.length * sz) en) := ⟨fun k j c hc => by
        show (if k = g ∧ j < _ then _ else _) = _
        rw [if_neg (by rintro ⟨rfl, _⟩; rw [hS' j] at hc; cases hc)]; exact hc, fun _ _ _ e => e⟩
      have hoth : ∀ k, k ≠ g → ∀ j, (G.ice g (l.length * sz) en).S k j = G.S k j := fun k hk j => by
        show (if k = g ∧ j < _ then _ else _) = _
        rw [if_neg (fun e => hk e.1)]
      refine ⟨G.ice g (l.length * sz) en, h.setOb ho hg hω hle rfl (fun k p hk _ _ hpk => ⟨rfl, hoth k hk, hpk⟩) (fun k j c hc => ?_) h.lim hω ⟨en, ety, hb, hl, hs, fun i j hi hj => hle.tr (hT i j hi hj), ?_⟩,
        ⟨⟨rfl, rfl, rfl, Nat.le_refl _, fun k hk hm => ⟨rfl, rfl, hoth k (by rintro rfl; exact hm _ hω trivial)⟩, hle.S, fun _ _ _ => rfl⟩, hle, rfl, setOb_lv _ _ _, setOb_t _ _ _, setOb_n _ _ _, fun k c j e => hoth k (by rintro rfl; rw [hω] at e; cases e)⟩⟩
      · have hc' : (if k = g ∧ j < l.length * sz then en[j]? else G.S k j) = some c := hc
        split at hc'
        · rename_i hk; obtain ⟨rfl, _⟩ := hk; simp only [World.cell?, hb]; exact hc'
        · exact h.imm _ _ _ hc'
      · show ∀ j, j < l.length * sz → (if g = g ∧ j < l.length * sz then en[j]? else G.S g j) = some (en.getD j Go.undef)
        intro j hj
        rw [if_pos ⟨rfl, hj⟩, Array.getElem?_eq_getElem (by omega), getD_array_of (by omega)]
    · exact ⟨G, h, Still.refl⟩
  · exact ⟨G, h, Still.refl⟩
theorem Tr.vview {S β} {v : V} {x : Value} (h : Tr S β v x) : Tr S β v.view x := by
  have : v.view = v := by
    cases v
    case agg l =>
      obtain ⟨cs, _, hl, hT⟩ := h.agg_inv
      simp only [V.view, V.agg.injEq]
      refine List.ext_getElem (by simp) fun i h1 h2 => ?_
      have h3 := hT i h2
      simp only [List.getD_eq_getElem?_getD, List.getElem?_eq_getElem h2, Option.getD_some] at h3
      rw [List.getElem_map]
      generalize l[i] = y at h3
      cases y <;> try rfl
      · rename_i own sz m
        cases own
        · rfl
        · cases h3
      · cases h3
    case uq => cases h
    case slc own sz l =>
      cases own
      · rfl
      · cases h
    case tup l => cases h
    all_goals rfl
  rw [this]; exact h
theorem tree_tr (h : Rel G s a w) {v u : V} {x : Value} (hv : Tr G.S G.β v x) (ht : tree s v = some u) : Tr G.S G.β u x ∧ u.flat.all pureC = true ∧ u ≠ .undef ∧ ∀ l, u ≠ .tup l := by
  unfold tree at ht
  split at ht
  · rename_i lv t n
    split at ht
    · rename_i sz l ho
      split at ht
      · rename_i hn
        obtain rfl := Option.some.inj ht
        obtain ⟨g, hg, hω, en, ety, hb, hl, hs, hT, hS⟩ := h.obj lv t _ ho
        obtain ⟨g', cap, hg', hc, hx⟩ := hv.aref_inv
        obtain rfl : g' = g := by rw [hg] at hg'; exact (Option.some.inj hg').symm
        subst hn
        have hS' : ∀ j, j < l.length * sz → G.S g' j = some (en.getD j Go.undef) := hS
        refine ⟨?_, rfl, (by intro e; cases e), fun l e => by cases e⟩
        rw [hx]
        exact Tr.slc sz l g' 0 cap (fun i j => en.getD (i * sz + j) Go.undef) hc hs (fun i j hi hj => by rw [Nat.zero_add]; exact hS' _ (cell_lt hi hj)) hT
      · cases ht
    · cases ht
  · rename_i l
    split at ht
    · rename_i hp
      obtain rfl := Option.some.inj ht
      exact ⟨hv.vview, hp, (by intro e; cases e), fun l e => by cases e⟩
    · cases ht
  · rename_i hna hng
    split at ht
    · rename_i hp
      obtain rfl := Option.some.inj ht
      have hview : v.view = v.viewC := by
        cases v <;> first | rfl | (cases hv; done) | exact absurd rfl (hng _)
      have hfl : v.viewC.flat = [v.viewC] := by
        cases v <;> first | rfl | exact absurd rfl (hng _)
      refine ⟨hview ▸ hv.vview, by rw [hfl]; simpa using hp, ?_, fun l e => ?_⟩
      · intro e; rw [e] at hp; cases hp
      · rw [e] at hp; cases hp
    · cases ht
theorem Rel.tree (h : Rel G s a w) {ty : TypeId} {x : Operand} {v : V} {s1 : St} (ht : s.tree P ty x = some (v, s1)) : ∃ G', Rel G' s1 a w ∧ Still G s w G' s1 ∧ Tr G'.S G'.β v (a.eval x) ∧ v.flat.all pureC = true ∧ v ≠ .undef ∧ ∀ l, v ≠ .tup l := by
  unfold St.tree at ht
  obtain ⟨u, hu, he⟩ := Option.map_eq_some_iff.1 ht
  obtain ⟨rfl, rfl⟩ := Prod.mk.inj he
  obtain ⟨G', h1, h2⟩ := h.frz (s.see P ty x)
  obtain ⟨k1, k2, k3, k4⟩ := tree_tr h1 (h2.le.tr (h.see P ty x)) hu
  exact ⟨G', h1, h2, k1, k2, k3, k4⟩
theorem Rel.trees (P : Program) : ∀ (xs : List (TypeId × Operand)) {G : Gh} {s s1 : St} {vs : List V}, Rel G s a w → St.trees P s xs = some (vs, s1) →
    ∃ G', Rel G' s1 a w ∧ Still G s w G' s1 ∧ vs.length = xs.length ∧ ∀ i, i < vs.length → Tr G'.S G'.β (vs.getD i .undef) ((xs.map fun x => a.eval x.2).getD i Go.undef) ∧ (vs.getD i .undef).flat.all pureC = true ∧ vs.getD i .undef ≠ .undef ∧ ∀ l, vs.getD i .undef ≠ .tup l := by
  intro xs
  induction xs with
  | nil =>
    intro G s s1 vs h ht
    simp only [St.trees, Option.some.injEq, Prod.mk.injEq] at ht
    obtain ⟨rfl, rfl⟩ := ht
    exact ⟨G, h, Still.refl, rfl, fun i hi => absurd hi (Nat.not_lt_zero _)⟩
  | cons x xs ih =>
    intro G s s1 vs h ht
    obtain ⟨ty, x⟩ := x
    simp only [St.trees] at ht
    split at ht
    · rename_i v s2 hv
      split at ht
      · rename_i vs' s3 hvs
        simp only [Option.some.injEq, Prod.mk.injEq] at ht
        obtain ⟨rfl, rfl⟩ := ht
        obtain ⟨G1, h1, h2, h3, h4, h5, h6⟩ := h.tree hv
        obtain ⟨G2, k1, k2, k3, k4⟩ := ih h1 hvs
        refine ⟨G2, k1, h2.trans k2, by simp [k3], fun i hi => ?_⟩
        cases i with
        | zero => exact ⟨k2.le.tr h3, h4, h5, h6⟩
        | succ i => exact k4 i (by simpa using hi)
      · cases ht
    · cases ht
/-! ### literals -/
theorem Tr.viewC_eq {S β} {v : V} {x : Value} (h : Tr S β v x) : v.viewC = v := by
  cases v <;> try rfl
  · rename_i own sz m
    cases own
    · rfl
    · cases h
  · cases h
theorem tr_cells {v : V} {x : Value} (h : Tr G.S G.β v x) (hu : v ≠ .undef) : v.flat.length = x.cells.size ∧ ∀ j, j < v.flat.length → Tr G.S G.β (v.flat.getD j .undef) (x.cells.getD j Go.undef) := by
  have ht : ∀ l, v ≠ .tup l := by rintro l rfl; cases h
  obtain ⟨h1, h2⟩ := (OwnV.of_tr' (w := default) (p := fun _ => .rs 0 0) h).cells hu ht
  refine ⟨h1, fun j hj => ?_⟩
  have h3 := h2 j hj
  have h4 : v.flat.getD j .undef = (v.flat.getD j .undef).viewC := by
    rcases flat_agg_or v with ⟨l, rfl⟩ | ⟨hna, hf⟩
    · obtain ⟨cs, _, hl, hT⟩ := h.agg_inv
      exact (hT j hj).viewC_eq.symm
    · rw [hf]
      have : j = 0 := by rw [hf] at hj; simpa using hj
      subst this
      exact h.viewC_eq.symm
  rw [h4]
  exact h3.view
theorem inOrder_zip (f : Operand → Value) : ∀ (l : List (Nat × Operand)) (k : Nat), inOrder k l = true → l.map (fun p => (p.1, f p.2)) = ((l.map fun p => f p.2).zipIdx k).map fun x => (x.2, x.1) := by
  intro l
  induction l with
  | nil => intro k _; rfl
  | cons p l ih =>
    intro k h
    simp only [inOrder] at h
    split at h
    · rename_i hp
      simp only [List.map_cons, List.zipIdx_cons]
      rw [ih (k + 1) h, hp]
    · cases h
/-- trees side by side -/
theorem laid_of {sz : Nat} (hz : 0 < sz) {vs : List V} {xs : List Value} (hl : vs.length = xs.length) (hT : ∀ i, i < vs.length → Tr G.S G.β (vs.getD i .undef) (xs.getD i Go.undef) ∧ (vs.getD i .undef).flat.all pureC = true ∧ vs.getD i .undef ≠ .undef)
    (hf : ∀ v ∈ vs, v.flat.length = sz) : Laid G sz vs (xs.flatMap fun v => v.cells.toList).toArray ∧ (∀ x ∈ xs, x.cells.size = sz) ∧ (xs.flatMap fun v => v.cells.toList).length = vs.length * sz := by
  have hsz : ∀ x ∈ xs, x.cells.size = sz := by
    intro x hx
    obtain ⟨i, hi, rfl⟩ := List.getElem_of_mem hx
    obtain ⟨h1, h2, h3⟩ := hT i (by omega)
    have h4 := (tr_cells h1 h3).1
    rw [List.getD_eq_getElem?_getD, List.getElem?_eq_getElem (by omega), Option.getD_some] at h4
    rw [List.getD_eq_getElem?_getD, List.getElem?_eq_getElem hi, Option.getD_some] at h4
    rw [← h4]
    exact hf _ (List.getElem_mem _)
  have hlen : ∀ (ys : List Value), (∀ x ∈ ys, x.cells.size = sz) → (ys.flatMap fun v => v.cells.toList).length = ys.length * sz := by
    intro ys
    induction ys with
    | nil => intro _; simp
    | cons y ys ih =>
      intro h
      rw [List.flatMap_cons, List.length_append, ih (fun x hx => h x (List.mem_cons_of_mem _ hx)), List.length_cons, Nat.succ_mul, Array.length_toList, h y List.mem_cons_self, Nat.add_comm]
  refine ⟨⟨by rw [List.size_toArray, hlen xs hsz, hl]; exact Nat.le_refl _, fun v hv => ⟨hf v hv, ?_⟩, fun i j hi hj => ?_⟩, hsz, by rw [hlen xs hsz, hl]⟩
  · obtain ⟨i, hi, rfl⟩ := List.getElem_of_mem hv
    have := (hT i hi).2.1
    rwa [List.getD_eq_getElem?_getD, List.getElem?_eq_getElem hi, Option.getD_some] at this
  · obtain ⟨h1, h2, h3⟩ := hT i hi
    obtain ⟨h4, h5⟩ := tr_cells h1 h3
    have hi' : i < xs.length := by omega
    have e1 : xs.getD i Go.undef = xs[i] := by rw [List.getD_eq_getElem?_getD, List.getElem?_eq_getElem hi', Option.getD_some]
    rw [e1] at h5 h4
    have hj' : j < (vs.getD i .undef).flat.length := by rw [h4, hsz _ (List.getElem_mem _)]; exact hj
    have h6 := h5 j hj'
    have h7 : (xs.flatMap fun v => v.cells.toList).toArray.getD (i * sz + j) Go.undef = xs[i].cells.getD j Go.undef := by
      have hg := Great.flat_get hz xs hsz (i * sz + j)
      have d1 : (i * sz + j) / sz = i := by rw [Nat.mul_comm, Nat.mul_add_div hz, Nat.div_eq_of_lt hj, Nat.add_zero]
      have d2 : (i * sz + j) % sz = j := by rw [Nat.mul_comm, Nat.mul_add_mod, Nat.mod_eq_of_lt hj]
      rw [d1, d2, List.getElem?_eq_getElem hi', Option.bind_some] at hg
      rw [Array.getD_eq_getD_getElem?, Array.getD_eq_getD_getElem?, ← hg]
      simp
    rw [h7]
    exact h6
theorem buildSlice_run {t e : TypeId} {n : Nat} {ps : Array (Nat × Operand)} {z : List V} (hu : P.underlying t = some (.slice e)) (hz : szOf P e ≠ 0) (hzero : zero P e = some z) (ho : inOrder 0 ps.toList = true) (hn : ps.size = n) (hsm : n * szOf P e ≤ 16777216)
    (hc : ∀ x ∈ ps.toList.map fun p => a.eval p.2, x.cells.size = szOf P e) (w : World) :
    (Instr.buildSlice t n (ps.map fun (i, x) => (i, a.eval x))).run P w = .ok (.slice (some ⟨w.heap.size, 0, none⟩) n n) (w.alloc (.cells ((ps.toList.map fun p => a.eval p.2).flatMap fun v => v.cells.toList).toArray e)) := by
  obtain ⟨i, d, h1, h2, h3, h4⟩ := szOf_ne hz
  have hparts : (ps.map fun (i, x) => (i, a.eval x)).toList = ((ps.toList.map fun p => a.eval p.2).zipIdx 0).map fun x => (x.2, x.1) := by
    rw [Array.toList_map]
    exact inOrder_zip a.eval ps.toList 0 ho
  obtain ⟨zi, hzi⟩ : ∃ zv, i.zero = some zv := by
    unfold zero at hzero
    cases hh : i.zero with
    | none => simp [h1, hh] at hzero
    | some zv => exact ⟨zv, rfl⟩
  by_cases hp : n * i.size = 0
  · have hn0 : n = 0 := by
      rcases Nat.mul_eq_zero.1 hp with h | h
      · exact h
      · omega
    have : ps = #[] := by
      apply Array.eq_empty_of_size_eq_zero
      omega
    subst this
    subst hn0
    simp [Instr.buildSlice, run_underlying hu, sizeOf, typeInfo, h1, Instr.fill, Go.newRow]
    rw [show Array.map (fun x => (default : Value)) (Array.range 0) = #[] from Array.eq_empty_of_size_eq_zero (by simp)]
  · refine run_buildSlice w t e n _ _ i zi hu h1 hzi (by rw [← h3]; omega) hp ?_
    rw [hparts, ← h3]
    exact Great.fill_whole (by omega) _ _ hc (by simp [hn])
theorem drop_dst {dd : Nat} (s : St) (v : V) : s = s := rfl
/-- what a literal's parts come to -/
theorem parts_laid {t e : TypeId} {n : Nat} {ps : Array (Nat × Operand)} {vs : List V} {s1 : St} (h : Rel G s a w) (hz : szOf P e ≠ 0) (ht : St.trees P s (ps.toList.map fun p => (e, p.2)) = some (vs, s1)) (hf : vs.all (fun v => v.flat.length == szOf P e) = true) :
    ∃ G', Rel G' s1 a w ∧ Still G s w G' s1 ∧ vs.length = ps.size ∧ Laid G' (szOf P e) vs ((ps.toList.map fun p => a.eval p.2).flatMap fun v => v.cells.toList).toArray ∧ (∀ x ∈ ps.toList.map fun p => a.eval p.2, x.cells.size = szOf P e) ∧
      (((ps.toList.map fun p => a.eval p.2).flatMap fun v => v.cells.toList).toArray).size = vs.length * szOf P e := by
  obtain ⟨G', h1, h2, h3, h4⟩ := Rel.trees P _ h ht
  have hxs : (ps.toList.map fun p => (e, p.2)).map (fun x => a.eval x.2) = ps.toList.map fun p => a.eval p.2 := by rw [List.map_map]; rfl
  rw [hxs] at h4
  have hl : vs.length = ps.size := by simpa using h3
  obtain ⟨k1, k2, k3⟩ := laid_of (G := G') (sz := szOf P e) (by omega) (vs := vs) (xs := ps.toList.map fun p => a.eval p.2) (by simpa using hl) (fun i hi => ⟨(h4 i hi).1, (h4 i hi).2.1, (h4 i hi).2.2.1⟩) (fun v hv => by
    rw [List.all_eq_true] at hf; simpa using hf v hv)
  exact ⟨G', h1, h2, hl, k1, k2, by rw [List.size_toArray]; exact k3⟩
theorem op_buildSlice {t e : TypeId} {n : Nat} {ps : Array (Nat × Operand)} {vs z : List V} {s1 : St} (h : Rel G s a w) (hu : P.underlying t = some (.slice e)) (hz : szOf P e ≠ 0) (hzero : zero P e = some z) (ho : inOrder 0 ps.toList = true) (hn : ps.size = n) (hsm : n * szOf P e ≤ 16777216)
    (ht : St.trees P s (ps.toList.map fun p => (e, p.2)) = some (vs, s1)) (hf : vs.all (fun v => v.flat.length == szOf P e) = true) : OpOk P ⟨d, .buildSlice t n ps, ty, pos, af, gd⟩ G s a w (.slc true (szOf P e) vs) s1 := by
  obtain ⟨G1, h1, h2, h3, h4, h5, h6⟩ := parts_laid (t := t) (n := n) h hz ht hf
  obtain ⟨G2, k1, k2, k3⟩ := h1.newRow (cap := n) h4 (by rw [h6, h3, hn]) (by omega) e
  refine ⟨.slice (some ⟨w.heap.size, 0, none⟩) n n, _, G2, ?_, k1, ?_, h2.fr.trans (by rw [h2.lv] at k3; exact k3)⟩
  · simp only [execOp]
    exact run_val (buildSlice_run hu hz hzero ho hn hsm h5 w)
  · rw [show vs.length = n by omega] at k2
    exact k2
theorem op_buildArr {t e : TypeId} {n dd : Nat} {ps : Array (Nat × Operand)} {vs z : List V} {s1 : St} (h : Rel G s a w) (hu : P.underlying t = some (.slice e)) (hz : szOf P e ≠ 0) (hzero : zero P e = some z) (ho : inOrder 0 ps.toList = true) (hn : ps.size = n) (hsm : n * szOf P e ≤ 16777216)
    (ht : St.trees P s (ps.toList.map fun p => (e, p.2)) = some (vs, s1)) (hf : vs.all (fun v => v.flat.length == szOf P e) = true) (hd : s1.b dd = none) :
    OpOk P ⟨d, .buildSlice t n ps, ty, pos, af, gd⟩ G s a w (.aref s.lv dd n) { s1 with b := upd s1.b dd (some (.arr false (szOf P e) vs)) } := by
  obtain ⟨G1, h1, h2, h3, h4, h5, h6⟩ := parts_laid (t := t) (n := n) h hz ht hf
  obtain ⟨k1, k2, k3⟩ := h1.allocOb hd (.cells ((ps.toList.map fun p => a.eval p.2).flatMap fun v => v.cells.toList).toArray e) (.arr false (szOf P e) vs) (fun w' hw' hle hs hS => ⟨_, e, by rw [hw']; exact heap_alloc_new _ _, (h4.mono hle).1, (h4.mono hle).2.1, (h4.mono hle).2.2, hS⟩)
  rw [h2.lv] at k1 k2 k3
  refine ⟨.slice (some ⟨w.heap.size, 0, none⟩) n n, _, _, ?_, k1, OwnS.of_tr' (Tr.aref _ _ _ _ _ k3 (Nat.le_refl _)), h2.fr.trans k2⟩
  simp only [execOp]
  exact run_val (buildSlice_run hu hz hzero ho hn hsm h5 w)
/-! ### make -/
theorem dflt_tr {t e : TypeId} (hu : P.underlying t = some (.slice e)) {z : List V} (hz : zero P e = some z) (hlen : z.length = szOf P e) (hn : szOf P e ≠ 0) (hfl : (dflt P t).flat.length = szOf P e) :
    ∃ zv, (∀ w : World, (zeroValue e).run P w = .ok zv w) ∧ zv.cells.size = szOf P e ∧ (dflt P t).flat.length = szOf P e ∧ ((dflt P t).flat.all pureC = true) ∧ ∀ j, j < szOf P e → Tr G.S G.β ((dflt P t).flat.getD j .undef) (zv.cells.getD j Go.undef) := by
  obtain ⟨zv, h1, h2, h3, _⟩ := zero_spec hz
  have hp : ∀ v (x : Value), agree v x = true → pureC v.viewC = true ∧ (∀ l, v ≠ .agg l) ∧ (∀ l, v ≠ .tup l) := by
    intro v x h
    unfold agree at h
    split at h
    all_goals first | exact ⟨rfl, (fun l e => by cases e), fun l e => by cases e⟩ | cases h
  have hd : (dflt P t).flat = z.map V.viewC := by
    unfold dflt
    have he : elemOf P t = e := by simp [elemOf, hu]
    rw [he, hz, Option.getD_some]
    cases ha : isAgg P e
    · obtain ⟨i, d, k1, k2, k3, k4⟩ := szOf_ne hn
      cases z with
      | nil => simp at hlen; omega
      | cons v z =>
        have h4 := hp _ _ (h3 0 (by simp))
        simp only [List.getD_cons_zero] at h4
        cases z with
        | nil =>
          simp only [pack, Bool.false_eq_true, if_false, List.headD_cons, List.map_cons, List.map_nil]
          cases v
          case agg l => exact absurd rfl (h4.2.1 l)
          case tup l => exact absurd rfl (h4.2.2 l)
          all_goals rfl
        | cons u z =>
          exfalso
          have : (dflt P t).flat.length = 1 := by
            unfold dflt
            rw [he, hz, Option.getD_some, ha]
            simp only [pack, Bool.false_eq_true, if_false, List.headD_cons]
            cases v
            case agg l => exact absurd rfl (h4.2.1 l)
            case tup l => exact absurd rfl (h4.2.2 l)
            all_goals rfl
          simp only [List.length_cons] at hlen
          omega
    · rfl
  refine ⟨zv, h1, by omega, by rw [hd, List.length_map]; exact hlen, ?_, fun j hj => ?_⟩
  · rw [hd, List.all_eq_true]
    intro x hx
    obtain ⟨y, hy, rfl⟩ := List.mem_map.1 hx
    obtain ⟨j, hj, rfl⟩ := List.getElem_of_mem hy
    have := h3 j hj
    rw [List.getD_eq_getElem?_getD, List.getElem?_eq_getElem hj, Option.getD_some] at this
    exact (hp _ _ this).1
  · rw [hd, getD_viewC]
    exact (agree_tr (G := G) (w := default) (h3 j (by omega)) (.rs 0 0)).view
theorem made_laid {t e : TypeId} (hu : P.underlying t = some (.slice e)) {z : List V} (hz : zero P e = some z) (hlen : z.length = szOf P e) (hn : szOf P e ≠ 0) (hfl : (dflt P t).flat.length = szOf P e) (n m : Nat) (hnm : n ≤ m) :
    ∃ i zv, P.info? e = some i ∧ i.zero = some zv ∧ i.size = szOf P e ∧ Laid G (szOf P e) (List.replicate n (dflt P t)) (madeCells zv.cells (m * szOf P e)) ∧ (madeCells zv.cells (m * szOf P e)).size = m * szOf P e := by
  obtain ⟨i, d, h1, h2, h3, h4⟩ := szOf_ne hn
  obtain ⟨zv, k1, k2, k3, k4, k5⟩ := dflt_tr (G := G) hu hz hlen hn hfl
  have hzi : i.zero = some zv := by
    have := k1 default
    simp only [zeroValue, Sem.run_bind, typeInfo, run_program, Result.andThen_ok, h1, Sem.run_pure] at this
    cases hh : i.zero with
    | none => simp [hh] at this
    | some y => simp [hh] at this; rw [this]
  have hsz : (madeCells zv.cells (m * szOf P e)).size = m * szOf P e := by simp [madeCells]
  refine ⟨i, zv, h1, hzi, h3.symm, ⟨?_, fun x hx => ?_, fun p q hp hq => ?_⟩, hsz⟩
  · rw [hsz, List.length_replicate]; exact Nat.mul_le_mul_right _ hnm
  · rw [List.eq_of_mem_replicate hx]; exact ⟨k3, k4⟩
  · rw [List.length_replicate] at hp
    have e1 : (List.replicate n (dflt P t)).getD p .undef = dflt P t := by simp [List.getD_eq_getElem?_getD, hp]
    rw [e1]
    have h6 := cell_lt (Nat.lt_of_lt_of_le hp hnm) hq
    have e2 : (madeCells zv.cells (m * szOf P e)).getD (p * szOf P e + q) Go.undef = zv.cells.getD q Go.undef := by
      have hq' : q < zv.cells.size := by omega
      have hmod : (p * szOf P e + q) % zv.cells.size = q := by rw [k2, Nat.mul_comm, Nat.mul_add_mod, Nat.mod_eq_of_lt hq]
      simp [madeCells, Array.getD, h6, hmod, hq']
    rw [e2]
    exact k5 q hq
theorem make_run {t e : TypeId} {i : TypeInfo} {zv : Value} (hu : P.underlying t = some (.slice e)) (hi : P.info? e = some i) (hz : i.zero = some zv) (kl kc : IntKind) {n m : Int} (h0 : 0 ≤ n) (hnm : n ≤ m) (hb0 : P.bytesOf e ≠ 0) (hb : m * P.bytesOf e ≤ 140737488355328) (w : World) :
    (Instr.makeSlice t (.int kl n) (.int kc m)).run P w = .ok (.slice (some ⟨w.heap.size, 0, none⟩) n.toNat m.toNat) (w.alloc (.cells (madeCells zv.cells (m.toNat * i.size)) e)) := by
  have hbe : P.bytesOf e = i.bytes := by simp [Program.bytesOf, hi]
  rw [hbe] at hb hb0
  have h1 : m ≤ m * i.bytes := by
    have : (1 : Int) ≤ i.bytes := by omega
    calc m = m * 1 := by omega
      _ ≤ m * i.bytes := Int.mul_le_mul_of_nonneg_left this (by omega)
  exact run_make w t e i zv hu hi hz kl kc n m h0 hnm (by rw [Int.mul_comm]; omega) (by omega)
theorem op_make {t e : TypeId} {x y : Operand} {z : List V} {kl kc : IntKind} {n m : Int} (h : Rel G s a w) (hu : P.underlying t = some (.slice e)) (hx : s.see P 0 x = .int kl n) (hy : s.see P 0 y = .int kc m) (hz : zero P e = some z) (hlen : z.length = szOf P e) (hn : szOf P e ≠ 0) (hfl : (dflt P t).flat.length = szOf P e)
    (hb0 : P.bytesOf e ≠ 0) (h0 : 0 ≤ n) (hnm : n ≤ m) (hb : m * P.bytesOf e ≤ 140737488355328) : OpOk P ⟨d, .makeSlice t x y, ty, pos, af, gd⟩ G s a w (.slc true (szOf P e) (List.replicate n.toNat (dflt P t))) s := by
  obtain ⟨i, zv, h1, h2, h3, h4, h5⟩ := made_laid (G := G) hu hz hlen hn hfl n.toNat m.toNat (by omega)
  obtain ⟨G2, k1, k2, k3⟩ := h.newRow (cap := m.toNat) h4 h5 (by simp; omega) e
  have e1 := h.see P 0 x
  have e2 := h.see P 0 y
  rw [hx] at e1
  rw [hy] at e2
  refine ⟨.slice (some ⟨w.heap.size, 0, none⟩) n.toNat m.toNat, _, G2, ?_, k1, ?_, k3⟩
  · simp only [execOp]
    refine run_val ?_
    rw [e1.int_inv, e2.int_inv, make_run hu h1 h2 kl kc h0 hnm hb0 hb, h3]
  · rw [List.length_replicate] at k2; exact k2
theorem op_makeArr {t e : TypeId} {dd : Nat} {x y : Operand} {z : List V} {kl kc : IntKind} {n m : Int} (h : Rel G s a w) (hu : P.underlying t = some (.slice e)) (hx : s.see P 0 x = .int kl n) (hy : s.see P 0 y = .int kc m) (hz : zero P e = some z) (hlen : z.length = szOf P e) (hn : szOf P e ≠ 0) (hfl : (dflt P t).flat.length = szOf P e)
    (hb0 : P.bytesOf e ≠ 0) (h0 : 0 ≤ n) (hnm : n ≤ m) (hb : m * P.bytesOf e ≤ 140737488355328) (hd : s.b dd = none) :
    OpOk P ⟨d, .makeSlice t x y, ty, pos, af, gd⟩ G s a w (.aref s.lv dd n.toNat) { s with b := upd s.b dd (some (.arr false (szOf P e) (List.replicate n.toNat (dflt P t)))) } := by
  obtain ⟨i, zv, h1, h2, h3, h4, h5⟩ := made_laid (G := G) hu hz hlen hn hfl n.toNat m.toNat (by omega)
  obtain ⟨k1, k2, k3⟩ := h.allocOb hd (.cells (madeCells zv.cells (m.toNat * szOf P e)) e) (.arr false (szOf P e) (List.replicate n.toNat (dflt P t))) (fun w' hw' hle hs hS => ⟨_, e, by rw [hw']; exact heap_alloc_new _ _, (h4.mono hle).1, (h4.mono hle).2.1, (h4.mono hle).2.2, hS⟩)
  have e1 := h.see P 0 x
  have e2 := h.see P 0 y
  rw [hx] at e1
  rw [hy] at e2
  refine ⟨.slice (some ⟨w.heap.size, 0, none⟩) n.toNat m.toNat, _, _, ?_, k1, OwnS.of_tr' (Tr.aref _ _ _ _ _ k3 (by omega)), k2⟩
  simp only [execOp]
  refine run_val ?_
  rw [e1.int_inv, e2.int_inv, make_run hu h1 h2 kl kc h0 hnm hb0 hb, h3]
end Go.Ev
namespace Go.Ev
open Go
set_option linter.unusedVariables false
set_option linter.unusedSimpArgs false
variable {P : Program} {G : Gh} {s : St} {a : Act} {w : World} {o : Oper}
variable {d : Option Nat} {ty : TypeId} {pos : String} {af : Array Edge} {gd : Option (Nat × Bool)}

theorem Rel.drew (h : Rel G s a w) : Rel G s a w.drew := ⟨h.size, h.defers, h.slot, h.obj, h.dom, h.imm, h.lim⟩
theorem Fr.drew {lv : Nat} {G' : Gh} {w' : World} (h : Fr lv G w.drew G' w') : Fr lv G w G' w' := ⟨h.os, h.tape, h.output, h.size, h.keep, h.imm, h.outer⟩
theorem app_room {t tx tyy e : TypeId} {i : TypeInfo} {dx : TypeDesc} {A : Option Addr} {n cap m : Nat} {Y : Value} {news : List Value} (ht : P.underlying t = some (.slice e)) (hi : P.info? e = some i) (hx : P.underlying tx = some dx) (hk : ∀ k, dx ≠ .int k)
    (hlen : (Builtin.lenOf Y).run P w = .ok m w) (hf : (Builtin.firstCells i.size m Y).run P w = .ok news.toArray w) (hroom : n + m ≤ cap) :
    (Builtin.append_ #[t, tx] tyy #[.slice A n cap, Y]).run P w = match A with
      | none => .ok (.slice none (n + m) cap) w
      | some b => ((storeCells (b.add (n * i.size)) news).run P w).andThen fun _ w' => .ok (.slice (some b) (n + m) cap) w' := by
  have hz : (dx matches .int _) = false := by cases dx <;> first | rfl | exact absurd rfl (hk _)
  cases A <;> simp [Builtin.append_, run_underlying ht, run_underlying hx, sizeOf, typeInfo, hi, hz, hlen, hroom, hf]
theorem app_grow {t tx tyy e : TypeId} {i : TypeInfo} {z : Value} {dx : TypeDesc} {A : Option Addr} {n cap m : Nat} {Y : Value} {news olds : List Value} (ht : P.underlying t = some (.slice e)) (hi : P.info? e = some i) (hz : i.zero = some z) (hx : P.underlying tx = some dx) (hk : ∀ k, dx ≠ .int k)
    (hlen : (Builtin.lenOf Y).run P w = .ok m w) (hf : (Builtin.firstCells i.size m Y).run P w.drew = .ok news.toArray w.drew) (ho : (Builtin.firstCells i.size n (.slice A n cap)).run P w.drew = .ok olds.toArray w.drew) (hb0 : 0 < i.bytes)
    (hg : cap < n + m) (hfit : (n + m) * i.bytes ≤ 140737488355328) :
    (Builtin.append_ #[t, tx] tyy #[.slice A n cap, Y]).run P w = .ok (.slice (some ⟨w.heap.size, 0, none⟩) (n + m) (grownCap w (n + m) cap e))
        (w.drew.alloc (.cells (olds.toArray ++ news.toArray ++ Builtin.zeroCells z.cells (grownCap w (n + m) cap e - (n + m))) e)) := by
  have hzz : (dx matches .int _) = false := by cases dx <;> first | rfl | exact absurd rfl (hk _)
  have hn : ¬ (n + m ≤ cap) := by omega
  have h1 : n + m ≤ (n + m) * i.bytes := Nat.le_mul_of_pos_right _ hb0
  have h63' : ¬ (9223372036854775807 < ((n : Int) + (m : Int))) := by omega
  have h48 := growslice_fits hg hfit
  have h48' : ¬ (281474976710656 < Builtin.nextslicecap (n + m) cap * i.bytes) := by omega
  simp [Builtin.append_, run_underlying ht, run_underlying hx, sizeOf, typeInfo, zeroValue, hi, hz, hzz, hlen, hn, h63', h48', Question.forced, hf, ho, Go.newRow, grownCap]
  congr 2
  apply Array.ext'
  simp [List.append_assoc]
theorem add_add (b o n m : Nat) : ((⟨b, o, none⟩ : Addr).add n).add m = ⟨b, o + n + m, none⟩ := by rw [add_eq, add_eq]
/-- the cells of what is appended (or of what it is appended to) -/
theorem src_slc (h : Rel G s a w) {sz : Nat} (hz : 0 < sz) {l : List V} {x : Value} (hv : Tr G.S G.β (.slc false sz l) x) : ∃ cs : List Value, (Builtin.lenOf x).run P w = .ok l.length w ∧ (Builtin.firstCells sz l.length x).run P w = .ok cs.toArray w ∧ (Builtin.firstCells sz l.length x).run P w.drew = .ok cs.toArray w.drew ∧
    Laid G sz l cs.toArray ∧ cs.length = l.length * sz ∧ ∀ u ∈ cs, u.oneCell' = true := by
  rcases hv.slc_inv with ⟨rfl, A0, cap0, rfl⟩ | ⟨b, o, cap, c, rfl, hc, hs, hS, hT⟩
  · exact ⟨[], rfl, by cases A0 <;> first | rfl | simp [Builtin.firstCells, loadCells, loadCellsFrom], by cases A0 <;> first | rfl | simp [Builtin.firstCells, loadCells, loadCellsFrom], ⟨by simp, (fun x hx => by cases hx), fun i j hi => absurd hi (Nat.not_lt_zero _)⟩, by simp, fun u hu => by cases hu⟩
  · have e1 := slc_cells h hS P
    have e2 := slc_cells h.drew hS P
    have hlen : ((List.range (l.length * sz)).map fun k => c (k / sz) (k % sz)).length = l.length * sz := by simp
    refine ⟨(List.range (l.length * sz)).map fun k => c (k / sz) (k % sz), rfl, e1, e2, ⟨by simp, hs, fun i j hi hj => ?_⟩, hlen, fun u hu => ?_⟩
    · have h5 := cell_lt hi hj
      have d1 : (i * sz + j) / sz = i := by rw [Nat.mul_comm, Nat.mul_add_div hz, Nat.div_eq_of_lt hj, Nat.add_zero]
      have d2 : (i * sz + j) % sz = j := by rw [Nat.mul_comm, Nat.mul_add_mod, Nat.mod_eq_of_lt hj]
      have : ((List.range (l.length * sz)).map fun k => c (k / sz) (k % sz)).toArray.getD (i * sz + j) Go.undef = c i j := by
        simp [Array.getD, h5, d1, d2]
      rw [this]
      exact hT i j hi hj
    · obtain ⟨k, hk, rfl⟩ := List.mem_map.1 hu
      have hk' : k < l.length * sz := by simpa using hk
      have h1 : k / sz < l.length := Nat.div_lt_of_lt_mul (by rw [Nat.mul_comm]; exact hk')
      have h2 : k % sz < sz := Nat.mod_lt _ hz
      have h3 := hT _ _ h1 h2
      have h4 := hs (l.getD (k / sz) .undef) (by rw [List.getD_eq_getElem?_getD, List.getElem?_eq_getElem h1]; exact List.getElem_mem h1)
      have h5 : pureC ((l.getD (k / sz) .undef).flat.getD (k % sz) .undef) = true := by
        have hlt : k % sz < (l.getD (k / sz) .undef).flat.length := by rw [h4.1]; exact h2
        have := h4.2
        rw [List.all_eq_true] at this
        refine this _ ?_
        rw [List.getD_eq_getElem?_getD (l := (l.getD (k / sz) .undef).flat), List.getElem?_eq_getElem hlt]
        exact List.getElem_mem hlt
      refine (cells_one h3 ?_ ?_).2
      · intro e; rw [e] at h5; cases h5
      · intro l e; rw [e] at h5; cases h5
theorem src_str {sz : Nat} (b : ByteArray) : ∃ cs : List Value, (Builtin.lenOf (.string b)).run P w = .ok b.size w ∧ (Builtin.firstCells 1 b.size (.string b)).run P w = .ok cs.toArray w ∧ (Builtin.firstCells 1 b.size (.string b)).run P w.drew = .ok cs.toArray w.drew ∧
    Laid G 1 (bytesV b) cs.toArray ∧ cs.length = (bytesV b).length * 1 ∧ (bytesV b).length = b.size ∧ ∀ u ∈ cs, u.oneCell' = true := by
  have hl : (bytesV b).length = b.size := by simp [bytesV]
  have hx : (b.extract 0 b.size) = b := by simp
  refine ⟨b.data.toList.map fun c => .int .u8 (c.toNat : Int), rfl, ?_, ?_, ⟨?_, fun x hx => ?_, fun i j hi hj => ?_⟩, by simp [bytesV], hl, fun u hu => ?_⟩
  · simp only [Builtin.firstCells, Sem.run_pure, hx]
    congr 1
    apply Array.ext'
    simp
  · simp only [Builtin.firstCells, Sem.run_pure, hx]
    congr 1
    apply Array.ext'
    simp
  · simp [bytesV]
  · obtain ⟨c, _, rfl⟩ := List.mem_map.1 hx; exact ⟨rfl, rfl⟩
  · obtain rfl : j = 0 := by omega
    have hi' : i < b.data.toList.length := by simpa [bytesV] using hi
    have e1 : (bytesV b).getD i .undef = .int .u8 ((b.data.toList[i]).toNat : Int) := by
      simp only [bytesV, List.getD_eq_getElem?_getD, List.getElem?_map, List.getElem?_eq_getElem hi', Option.map_some, Option.getD_some]
    have e2 : ((b.data.toList.map fun c => Value.int .u8 (c.toNat : Int)).toArray).getD (i * 1 + 0) Go.undef = .int .u8 ((b.data.toList[i]).toNat : Int) := by
      have : i < b.data.size := by simpa using hi'
      have h' : i < b.size := this
      simp [Array.getD, this, h']
    rw [e1, e2]
    exact Tr.int _ _
  · obtain ⟨c, _, rfl⟩ := List.mem_map.1 hu; rfl
theorem Laid.append {sz : Nat} {l m : List V} {cs ds rest : List Value} (h : Laid G sz l cs.toArray) (k : Laid G sz m ds.toArray) (hl : cs.length = l.length * sz) (hm : ds.length = m.length * sz) : Laid G sz (l ++ m) (cs ++ ds ++ rest).toArray := by
  refine ⟨by simp [hl, hm, Nat.add_mul], fun x hx => ?_, fun i j hi hj => ?_⟩
  · rcases List.mem_append.1 hx with hx | hx
    · exact h.2.1 x hx
    · exact k.2.1 x hx
  · by_cases h1 : i < l.length
    · have e1 : (l ++ m).getD i .undef = l.getD i .undef := by simp [List.getD_eq_getElem?_getD, List.getElem?_append_left h1]
      have h2 := cell_lt h1 hj
      have e2 : (cs ++ ds ++ rest).toArray.getD (i * sz + j) Go.undef = cs.toArray.getD (i * sz + j) Go.undef := by
        simp only [Array.getD_eq_getD_getElem?, List.getElem?_toArray, List.append_assoc]
        rw [List.getElem?_append_left (by omega)]
      rw [e1, e2]
      exact h.2.2 i j h1 hj
    · have h3 : i - l.length < m.length := by simp at hi; omega
      have e1 : (l ++ m).getD i .undef = m.getD (i - l.length) .undef := by simp [List.getD_eq_getElem?_getD, List.getElem?_append_right (by omega : l.length ≤ i)]
      have h2 := cell_lt h3 hj
      have h4 : i * sz = l.length * sz + (i - l.length) * sz := by rw [← Nat.add_mul]; congr 1; omega
      have e2 : (cs ++ ds ++ rest).toArray.getD (i * sz + j) Go.undef = ds.toArray.getD ((i - l.length) * sz + j) Go.undef := by
        simp only [Array.getD_eq_getD_getElem?, List.getElem?_toArray, List.append_assoc]
        rw [List.getElem?_append_right (by omega), List.getElem?_append_left (by omega)]
        congr 2
        omega
      rw [e1, e2]
      exact k.2.2 _ j h3 hj
def Gh.tail (G : Gh) (g lo hi : Nat) (news : List Value) : Gh := { G with S := fun k j => if k = g ∧ lo ≤ j ∧ j < hi then news[j - lo]? else G.S k j }
theorem grow_core (h : Rel G s a w) {t tx e : TypeId} {sz : Nat} {l m : List V} {X Y : Value} {news : List Value} {dx : TypeDesc} (hgr : growB P t = true) (hse : sz = elemSz P t) (he : P.underlying t = some (.slice e)) (hx : P.underlying tx = some dx) (hk : ∀ k, dx ≠ .int k)
    (hX : OwnS G w Pl.rs (.slc true sz l) X) (hlen : (Builtin.lenOf Y).run P w = .ok m.length w) (hf : (Builtin.firstCells sz m.length Y).run P w = .ok news.toArray w) (hf' : (Builtin.firstCells sz m.length Y).run P w.drew = .ok news.toArray w.drew)
    (hL : Laid G sz m news.toArray) (hn : news.length = m.length * sz) (h1 : ∀ u ∈ news, u.oneCell' = true) (hb : (l.length + m.length) * P.bytesOf e ≤ 140737488355328) :
    ∃ x w' G', (Builtin.append_ #[t, tx] ty #[X, Y]).run P w = .ok x w' ∧ Rel G' s a w' ∧ OwnS G' w' Pl.rs (.slc true sz (l ++ m)) x ∧ Fr s.lv G w G' w' := by
  have hee : elemOf P t = e := by simp [elemOf, he]
  unfold growB at hgr
  simp only [Bool.and_eq_true, bne_iff_ne, ne_eq] at hgr
  obtain ⟨⟨⟨_, hnz⟩, hbz⟩, hzz⟩ := hgr
  have hszz : sz = szOf P e := by rw [hse]; simp [elemSz, hee]
  have hnz' : szOf P e ≠ 0 := by rw [← hszz, hse]; exact hnz
  obtain ⟨i, d, g1, g2, g3, g4⟩ := szOf_ne hnz'
  rw [hee] at hbz hzz
  have hbe : P.bytesOf e = i.bytes := by simp [Program.bytesOf, g1]
  cases hzo : zero P e with
  | none => rw [hzo] at hzz; cases hzz
  | some z =>
    rw [hzo] at hzz
    have hzl : z.length = szOf P e := by have : z.length = elemSz P t := by simpa using hzz
                                         rw [this, ← hse, hszz]
    obtain ⟨zv, k1, k2, k3, _⟩ := zero_spec hzo
    have hzi : i.zero = some zv := by
      have := k1 default
      simp only [zeroValue, Sem.run_bind, typeInfo, run_program, Result.andThen_ok, g1, Sem.run_pure] at this
      cases hh : i.zero with
      | none => simp [hh] at this
      | some y => simp [hh] at this; rw [this]
    have hpos : 0 < sz := by omega
    have hX0 := hX
    have hsi : i.size = sz := by omega
    obtain ⟨hXt, A, cap, rfl, hown⟩ : Tr G.S G.β (.slc false sz l) X ∧ ∃ a cap, X = .slice a l.length cap ∧ (cap = l.length ∨ ∃ g cs ty, a = some ⟨g, 0, none⟩ ∧ G.ω g = some (.rs 0 0) ∧ w.heap[g]? = some (.cells cs ty (0, 0)) ∧ cs.size = cap * sz ∧ ∀ j, l.length * sz ≤ j → G.S g j = none) := hX
    obtain ⟨olds, o1, o2, o3, o4, o5, o6⟩ := src_slc (P := P) h hpos hXt
    have hcl : l.length ≤ cap := by
      rcases hXt.slc_inv with ⟨rfl, _⟩ | ⟨b, o, cap', c, hh, hc, _⟩
      · exact Nat.zero_le _
      · cases hh; exact hc
    by_cases hroom : l.length + m.length ≤ cap
    · have hr := app_room (P := P) (w := w) (t := t) (tx := tx) (tyy := ty) (A := A) (n := l.length) (cap := cap) (Y := Y) he g1 hx hk hlen (by rw [hsi]; exact hf) hroom
      rcases hown with hown | ⟨g, cs, cty, rfl, hω, hg, hcs, hS⟩
      · -- nothing comes to it
        have hm0 : m = [] := List.eq_nil_of_length_eq_zero (by omega)
        subst hm0
        have hn0 : news = [] := List.eq_nil_of_length_eq_zero (by simpa using hn)
        subst hn0
        refine ⟨.slice A l.length cap, w, G, ?_, h, ?_, Fr.refl _ _ _⟩
        · rw [hr]
          cases A <;> simp [storeCells]
        · rw [List.append_nil]; exact hX0
      · have hfit : l.length * sz + news.length ≤ cs.size := by rw [hn, hcs, ← Nat.add_mul]; exact Nat.mul_le_mul_right _ hroom
        have hst := run_storeCells_at P g (l.length * sz) cty news 0 cs w hg (by simpa using hfit) h1
        simp only [Nat.add_zero] at hst
        have hnew : (w.setRow g (cs.toList.take (l.length * sz) ++ news ++ cs.toList.drop (l.length * sz + news.length)).toArray).heap[g]? = some (.cells (cs.toList.take (l.length * sz) ++ news ++ cs.toList.drop (l.length * sz + news.length)).toArray cty (0, 0)) := setRow_heap w g cs _ cty _ hg
        generalize hw' : w.setRow g (cs.toList.take (l.length * sz) ++ news ++ cs.toList.drop (l.length * sz + news.length)).toArray = w' at hst hnew
        have hoth : ∀ k, k ≠ g → w'.heap[k]? = w.heap[k]? := fun k hk => by rw [← hw']; exact setRow_other w g k _ hk
        have hGoth : ∀ k, k ≠ g → ∀ j, (G.tail g (l.length * sz) ((l.length + m.length) * sz) news).S k j = G.S k j := fun k hk j => by
          show (if k = g ∧ _ then _ else _) = _
          rw [if_neg (fun e => hk e.1)]
        have hle : Le G (G.tail g (l.length * sz) ((l.length + m.length) * sz) news) := ⟨fun k j c hc => by
          show (if k = g ∧ _ then _ else _) = _
          rw [if_neg (by rintro ⟨rfl, h2, _⟩; rw [hS j h2] at hc; cases hc)]; exact hc, fun _ _ _ e => e⟩
        have hws : w'.heap.size = w.heap.size := by rw [← hw']; simp
        have hSg : ∀ j, l.length * sz ≤ j → j < (l.length + m.length) * sz → (G.tail g (l.length * sz) ((l.length + m.length) * sz) news).S g j = news[j - l.length * sz]? := fun j h2 h3 => by
          show (if g = g ∧ _ then _ else _) = _
          rw [if_pos ⟨rfl, h2, h3⟩]
        have hcell : ∀ j, w'.cell? ⟨g, j, none⟩ = (cs.toList.take (l.length * sz) ++ news ++ cs.toList.drop (l.length * sz + news.length))[j]? := fun j => by simp only [World.cell?, hnew]; simp
        have hlz : l.length * sz ≤ cs.size := by omega
        refine ⟨.slice (some ⟨g, 0, none⟩) (l.length + m.length) cap, w', G.tail g (l.length * sz) ((l.length + m.length) * sz) news, ?_, h.grow hle rfl (fun k p hp hpk => ?_) (fun k j c hc => ?_) (fun k p hp => by rw [hws]; exact h.lim k p hp), ?_, ⟨by rw [← hw']; rfl, by rw [← hw']; rfl, by rw [← hw']; rfl, by rw [hws]; exact Nat.le_refl _, fun k hk hm => ?_, hle.S, fun _ _ _ => rfl⟩⟩
        · rw [hr]
          show ((storeCells ((⟨g, 0, none⟩ : Addr).add (l.length * i.size)) news).run P w).andThen _ = _
          rw [hsi, add_eq, Nat.zero_add, hst]
          rfl
        · have hkg : k ≠ g := by rintro rfl; rw [hω] at hpk; cases hpk; exact hp 0 0 rfl
          exact ⟨hoth k hkg, hGoth k hkg, hpk⟩
        · by_cases hkg : k = g
          · subst hkg
            have hc' : (if k = k ∧ l.length * sz ≤ j ∧ j < (l.length + m.length) * sz then news[j - l.length * sz]? else G.S k j) = some c := hc
            rw [hcell]
            split at hc'
            · rename_i hh
              rw [List.append_assoc, List.getElem?_append_right (by simp; omega)]
              simp only [List.length_take, Array.length_toList, Nat.min_eq_left hlz]
              rw [List.getElem?_append_left (by have h2 := hh.2.2; rw [Nat.add_mul] at h2; have h3 := hh.2.1; omega)]
              exact hc'
            · have hj : j < l.length * sz := by
                rcases Nat.lt_or_ge j (l.length * sz) with h' | h'
                · exact h'
                · rw [hS j h'] at hc'; cases hc'
              have := h.imm _ _ _ hc'
              simp only [World.cell?, hg] at this
              rw [List.append_assoc, List.getElem?_append_left (by simp; omega), List.getElem?_take, if_pos hj]
              simpa using this
          · rw [hGoth k hkg] at hc
            have := h.imm _ _ _ hc
            simp only [World.cell?, hoth k hkg]
            exact this
        · have hLn := Laid.append (rest := cs.toList.drop (l.length * sz + news.length)) (o4.mono hle) (hL.mono hle) o5 hn
          have hlm : (l ++ m).length = l.length + m.length := by simp
          refine ⟨?_, some ⟨g, 0, none⟩, cap, by rw [hlm], .inr ⟨g, _, cty, rfl, hω, hnew, ?_, fun j hj => ?_⟩⟩
          · suffices hfin : Tr (G.tail g (l.length * sz) ((l.length + m.length) * sz) news).S (G.tail g (l.length * sz) ((l.length + m.length) * sz) news).β (.slc false sz (l ++ m)) (.slice (some ⟨g, 0, none⟩) (l ++ m).length cap) by rw [hlm] at hfin; exact hfin
            refine Tr.slc sz (l ++ m) g 0 cap (fun i j => (olds ++ news ++ cs.toList.drop (l.length * sz + news.length)).toArray.getD (i * sz + j) Go.undef) (by omega) hLn.2.1 (fun p q hp hq => ?_) hLn.2.2
            have h5 := cell_lt hp hq
            rw [Nat.zero_add]
            by_cases hlo : p * sz + q < l.length * sz
            · -- an elder element
              have hp' : p < l.length := by
                rcases Nat.lt_or_ge p l.length with h' | h'
                · exact h'
                · have := Nat.mul_le_mul_right sz h'; omega
              rcases hXt.slc_inv with ⟨rfl, _⟩ | ⟨b, o, cap', c, hh, hc, hs, hS0, hT0⟩
              · simp at hp'
              · cases hh
                have e1 := hle.S _ _ _ (hS0 p q hp' hq)
                rw [Nat.zero_add] at e1
                rw [e1]
                have e2 := slc_cells h hS0 P
                have e3 : (loadCells ⟨g, 0, none⟩ (l.length * sz)).run P w = .ok olds.toArray w := o2
                rw [e3] at e2
                have e4 : olds = (List.range (l.length * sz)).map fun k => c (k / sz) (k % sz) := by
                  have := (Result.ok.inj e2).1
                  simpa using this
                have d1 : (p * sz + q) / sz = p := by rw [Nat.mul_comm, Nat.mul_add_div hpos, Nat.div_eq_of_lt hq, Nat.add_zero]
                have d2 : (p * sz + q) % sz = q := by rw [Nat.mul_comm, Nat.mul_add_mod, Nat.mod_eq_of_lt hq]
                simp only [Array.getD_eq_getD_getElem?, List.getElem?_toArray, List.append_assoc]
                rw [List.getElem?_append_left (by omega), e4, List.getElem?_map, List.getElem?_range hlo]
                simp [d1, d2]
            · rw [hSg _ (by omega) (by rw [← hlm]; exact h5)]
              simp only [Array.getD_eq_getD_getElem?, List.getElem?_toArray, List.append_assoc]
              have h6 : p * sz + q - l.length * sz < news.length := by rw [hn]; rw [hlm, Nat.add_mul] at h5; omega
              rw [List.getElem?_append_right (by omega), List.getElem?_append_left (by omega), o5]
              rw [List.getElem?_eq_getElem h6, Option.getD_some]
          · simp only [List.size_toArray, List.length_append, List.length_take, List.length_drop, Array.length_toList]
            omega
          · show (if g = g ∧ _ then _ else _) = _
            rw [if_neg (fun e => by have := e.2.2; rw [hlm] at hj; omega)]
            exact hS j (by rw [hlm, Nat.add_mul] at hj; omega)
        · have hkg : k ≠ g := by rintro rfl; exact hm _ hω trivial
          exact ⟨hoth k hkg, rfl, hGoth k hkg⟩
    · have hr := app_grow (P := P) (w := w) (t := t) (tx := tx) (tyy := ty) (A := A) (n := l.length) (cap := cap) (Y := Y) (news := news) (olds := olds) he g1 hzi hx hk hlen (by rw [hsi]; exact hf') (by rw [hsi]; exact o3) (by omega) (by omega) (by rw [← hbe]; exact hb)
      have hge := grownCap_ge w (l.length + m.length) cap e
      have hzc : (Builtin.zeroCells zv.cells (grownCap w (l.length + m.length) cap e - (l.length + m.length))).size = (grownCap w (l.length + m.length) cap e - (l.length + m.length)) * sz := by
        rw [size_zeroCells, ← k2, hzl, hszz]
      have hLn := Laid.append (rest := (Builtin.zeroCells zv.cells (grownCap w (l.length + m.length) cap e - (l.length + m.length))).toList) o4 hL o5 hn
      have harr : olds.toArray ++ news.toArray ++ Builtin.zeroCells zv.cells (grownCap w (l.length + m.length) cap e - (l.length + m.length)) = (olds ++ news ++ (Builtin.zeroCells zv.cells (grownCap w (l.length + m.length) cap e - (l.length + m.length))).toList).toArray := by
        apply Array.ext'
        simp
      rw [harr] at hr
      have hlm : (l ++ m).length = l.length + m.length := by simp
      obtain ⟨G2, q1, q2, q3⟩ := h.drew.newRow (cap := grownCap w (l.length + m.length) cap e) hLn (by
        have hz2 : (Builtin.zeroCells zv.cells (grownCap w (l.length + m.length) cap e - (l.length + m.length))).toList.length = (grownCap w (l.length + m.length) cap e - (l.length + m.length)) * sz := by rw [Array.length_toList]; exact hzc
        rw [List.size_toArray, List.length_append, List.length_append, hz2, o5, hn, ← Nat.add_mul, ← Nat.add_mul]
        congr 1
        omega) (by rw [hlm]; exact hge) e
      refine ⟨_, _, G2, hr, q1, ?_, q3.drew⟩
      rw [hlm] at q2
      exact q2
theorem op_append {x y : Operand} {t t' : TypeId} {v : V} (h : Rel G s a w) (hv : appendV P t t' (s.all P t x) (s.see P t' y) = some v) :
    OpOk P ⟨d, .call { callee := .builtin .append, args := #[x, y], argTypes := #[t, t'] }, ty, pos, af, gd⟩ G s a w v (s.drop x) := by
  obtain ⟨G1, h1, h2, h3, _, h5, h6⟩ := h.all P t x
  have hy := h.see P t' y
  have h0 : ∀ own sz l, s.see P t' y = .slc own sz l → own = false := fun own sz l e => see_slc e
  rw [← h5, ← h6] at hy
  generalize s.see P t' y = yv at hv hy h0
  have hlv : (s.drop x).lv = s.lv := by cases x <;> rfl
  have fin : ∀ {x' : Value} {w' : World} {G' : Gh}, (Builtin.append_ #[t, t'] ty #[a.eval x, a.eval y]).run P w = .ok x' w' → Rel G' (s.drop x) a w' → OwnS G' w' Pl.rs v x' → Fr (s.drop x).lv G1 w G' w' → OpOk P ⟨d, .call { callee := .builtin .append, args := #[x, y], argTypes := #[t, t'] }, ty, pos, af, gd⟩ G s a w v (s.drop x) := by
    intro x' w' G' e1 e2 e3 e4
    refine ⟨x', w', G', run_builtin ?_, e2, e3, h3.trans (by rw [hlv] at e4; exact e4)⟩
    simp only [builtin, List.map_toArray, List.map_cons, List.map_nil, Sem.run_bind, e1, Result.andThen_ok, Sem.run_pure]
  unfold appendV at hv
  split at hv
  · rename_i sz l hx
    split at hv
    · rename_i hgr
      obtain ⟨hgr, hse⟩ := hgr
      obtain ⟨e, he, hel⟩ := isSl_spec (by simp only [growB, Bool.and_eq_true] at hgr; exact hgr.1.1.1)
      rw [hx] at h2
      split at hv
      · rename_i own sz' m
        obtain rfl := h0 _ _ _ rfl
        split at hv
        · rename_i hc
          obtain ⟨hsl, rfl⟩ := hc
          split at hv
          · rename_i hb
            obtain rfl := Option.some.inj hv
            obtain ⟨e', he', _⟩ := isSl_spec hsl
            have hpos : 0 < sz' := by
              simp only [growB, Bool.and_eq_true, bne_iff_ne] at hgr
              have := hgr.1.1.2
              omega
            obtain ⟨cs, c1, c2, c3, c4, c5, c6⟩ := src_slc (P := P) h1 hpos hy
            obtain ⟨x', w', G', e1, e2, e3, e4⟩ := grow_core (ty := ty) h1 hgr hse he he' (fun k e => by cases e) h2 c1 c2 c3 c4 c5 c6 (by rw [hel] at hb; exact hb)
            exact fin e1 e2 e3 e4
          · cases hv
        · cases hv
      · rename_i b
        split at hv
        · rename_i hc
          obtain ⟨hst, rfl⟩ := hc
          split at hv
          · rename_i hb
            obtain rfl := Option.some.inj hv
            have he' := isStr_spec hst
            obtain ⟨cs, c1, c2, c3, c4, c5, c5', c6⟩ := src_str (P := P) (G := G1) (w := w) (sz := 1) b
            rw [hy.str_inv] at fin
            rw [← c5'] at c1 c2 c3 hb
            obtain ⟨x', w', G', e1, e2, e3, e4⟩ := grow_core (ty := ty) h1 hgr hse he he' (fun k e => by cases e) h2 c1 c2 c3 c4 c5 c6 (by rw [hel] at hb; exact hb)
            exact fin e1 e2 e3 e4
          · cases hv
        · cases hv
      · cases hv
    · cases hv
  · cases hv
end Go.Ev
namespace Go.Ev
open Go
set_option linter.unusedVariables false
set_option linter.unusedSimpArgs false
variable {P : Program} {G : Gh} {s : St} {a : Act} {w : World} {o : Oper}
variable {d : Option Nat} {ty : TypeId} {pos : String} {af : Array Edge} {gd : Option (Nat × Bool)}

theorem store_run {t : TypeId} (hz : szOf P t ≠ 0) {g off : Nat} {cs : Array Value} {ct : TypeId} {x : Value} (hg : w.heap[g]? = some (.cells cs ct (0, 0))) (hx : x.cells.size = szOf P t) (hb : off + szOf P t ≤ cs.size) (h1 : ∀ u ∈ x.cells.toList, u.oneCell' = true) :
    (storeVar t ⟨g, off, none⟩ x).run P w = .ok () (w.setRow g (cs.toList.take off ++ x.cells.toList ++ cs.toList.drop (off + szOf P t)).toArray) := by
  have hst := run_storeCells_at P g off ct x.cells.toList 0 cs w hg (by simp [hx]; exact hb) h1
  simp only [Nat.add_zero, Array.length_toList, hx] at hst
  unfold storeVar
  simp only [Sem.run_bind, run_sizeOf' hz, Result.andThen_ok, hx, ne_eq, not_true_eq_false, if_false]
  exact hst
theorem getD_row {cs : Array Value} {vs : List Value} {off n j : Nat} (hv : vs.length = n) (hb : off + n ≤ cs.size) : (cs.toList.take off ++ vs ++ cs.toList.drop (off + n)).toArray.getD j Go.undef = if off ≤ j ∧ j < off + n then vs.getD (j - off) Go.undef else cs.getD j Go.undef := by
  simp only [Array.getD_eq_getD_getElem?, List.getElem?_toArray, List.append_assoc, List.getD_eq_getElem?_getD]
  by_cases h1 : j < off
  · rw [List.getElem?_append_left (by simp; omega), List.getElem?_take, if_pos h1, if_neg (by omega)]
    simp
  · rw [List.getElem?_append_right (by simp; omega)]
    simp only [List.length_take, Array.length_toList, Nat.min_eq_left (show off ≤ cs.size by omega)]
    by_cases h2 : j - off < vs.length
    · rw [List.getElem?_append_left h2, if_pos (by omega)]
    · rw [List.getElem?_append_right (by omega), if_neg (by omega), List.getElem?_drop]
      rw [show off + n + (j - off - vs.length) = j by omega]
      simp
theorem size_row {cs : Array Value} {vs : List Value} {off n : Nat} (hv : vs.length = n) (hb : off + n ≤ cs.size) : (cs.toList.take off ++ vs ++ cs.toList.drop (off + n)).toArray.size = cs.size := by
  simp only [List.size_toArray, List.length_append, List.length_take, List.length_drop, Array.length_toList]
  omega
theorem drop_ob (x : Operand) (lv u : Nat) : (s.drop x).ob lv u = s.ob lv u := by cases x <;> rfl
theorem drop_lv (x : Operand) : (s.drop x).lv = s.lv := by cases x <;> rfl
def putOF (lv u off : Nat) : Pl → Pl
  | .rs 0 j => .cl lv u (off + j)
  | p => p
/-- an operation without a value -/
def OpU (P : Program) (o : Oper) (G : Gh) (s : St) (a : Act) (w : World) (s1 : St) : Prop :=
  ∃ w' G', (execOp a.eval o).run P w = .ok .skip w' ∧ Rel G' s1 a w' ∧ Fr s.lv G w G' w'
theorem op_store {x y : Operand} {t : TypeId} {s1 : St} (h : Rel G s a w) (hv : uStore P s t y (s.see P 0 x) = some s1) : OpU P ⟨d, .store t x y, ty, pos, af, gd⟩ G s a w s1 := by
  have hx := h.see P 0 x
  unfold uStore at hv
  generalize s.see P 0 x = xv at hv hx
  have fin : ∀ {g off : Nat} {w' : World} {G' : Gh}, a.eval x = .pointer (some ⟨g, off, none⟩) → (storeVar t ⟨g, off, none⟩ (a.eval y)).run P w = .ok () w' → Rel G' s1 a w' → Fr s.lv G w G' w' → OpU P ⟨d, .store t x y, ty, pos, af, gd⟩ G s a w s1 := by
    intro g off w' G' e1 e2 e3 e4
    refine ⟨w', G', ?_, e3, e4⟩
    simp only [execOp, Instr.storeAt, e1, Instr.sureAddr, Sem.run_bind, Sem.run_pure, Result.andThen_ok, e2]
  split at hv
  · rename_i lv u off
    dsimp only at hv
    split at hv
    · rename_i cs ho
      split at hv
      · rename_i hc
        obtain ⟨hl, hb, hz, hok, _⟩ := hc
        obtain ⟨G1, h1, h2, h3, _, h5, h6⟩ := h.all P t y
        have hu : s.all P t y ≠ .undef := by rintro e; rw [e] at hok; cases hok
        have ht : ∀ l, s.all P t y ≠ .tup l := by intro l e; rw [e] at hok; cases hok
        have hs1 : s1 = (s.drop y).setOb lv u (.box (setL cs off (s.all P t y).flat)) := by
          split at hv
          · cases hv
          · cases hv
          · exact (Option.some.inj hv).symm
        subst hs1
        obtain ⟨q1, q2⟩ := (h2.toV ht).cells hu ht
        obtain ⟨g, hg, hxe⟩ := hx.ptr_inv
        rw [← h6] at hg
        obtain ⟨g', hg', hω, en, ety, hbk, hlen, hS, hT⟩ := h1.obj lv u _ (by rw [drop_ob]; exact ho)
        obtain rfl : g' = g := by rw [hg] at hg'; exact (Option.some.inj hg').symm
        have hsz : (a.eval y).cells.size = szOf P t := by omega
        have hone : ∀ z ∈ (a.eval y).cells.toList, z.oneCell' = true := by
          intro z hz'
          obtain ⟨j, hj, rfl⟩ := List.getElem_of_mem hz'
          have hj' : j < (s.all P t y).flat.length := by simp at hj; omega
          have := q2 j hj'
          have hc : cellOk ((s.all P t y).flat.getD j .undef) = true := by
            rw [List.all_eq_true] at hok
            refine hok _ ?_
            rw [List.getD_eq_getElem?_getD, List.getElem?_eq_getElem hj', Option.getD_some]
            exact List.getElem_mem hj'
          have := (this.one hc).2
          rw [getD_array_of (by simpa using hj)] at this
          simpa using this
        have hst := store_run (P := P) hz hbk hsz (off := off) (by omega) hone
        have hnew := setRow_heap w g' en (en.toList.take off ++ (a.eval y).cells.toList ++ en.toList.drop (off + szOf P t)).toArray ety _ hbk
        generalize hw' : w.setRow g' (en.toList.take off ++ (a.eval y).cells.toList ++ en.toList.drop (off + szOf P t)).toArray = w' at hst hnew
        have hoth : ∀ k, k ≠ g' → w'.heap[k]? = w.heap[k]? := fun k hk => by rw [← hw']; exact setRow_other w g' k _ hk
        have hws : w'.heap.size = w.heap.size := by rw [← hw']; simp
        have hlv : (s.drop y).lv = s.lv := drop_lv y
        refine fin hxe hst (h1.setOb (G' := G1.ren (putOF lv u off)) (by rw [drop_ob]; exact ho) hg hω (G1.ren_le _) rfl (fun k p hk hp hr hpk => ⟨hoth k hk, fun _ => rfl, ?_⟩) (fun k j c hc => ?_) (fun k p hp => by rw [hws]; exact ren_lim h1.lim k p hp) (by rw [ren_ω hω]; rfl) ?_) (h3.trans ⟨by rw [← hw']; rfl, by rw [← hw']; rfl, by rw [← hw']; rfl, by rw [hws]; exact Nat.le_refl _, fun k hk hm => ⟨hoth k (by rintro rfl; exact hm _ hω trivial), ?_, fun _ => rfl⟩, fun _ _ _ e => e, fun _ _ _ => rfl⟩)
        · rw [ren_ω hpk]
          cases p with
          | rs c j => exact absurd rfl (hr c j)
          | _ => rfl
        · have hkg : k ≠ g' := by rintro rfl; have : G1.S k j = some c := hc; rw [hS] at this; cases this
          have := h1.imm _ _ _ hc
          simp only [World.cell?, hoth k hkg]
          exact this
        · refine ⟨_, ety, hnew, ?_, hS, fun j hj => ?_⟩
          · rw [length_setL _ _ _ (by omega), size_row (by simp [hsz]) (by omega)]; exact hlen
          · rw [length_setL _ _ _ (by omega)] at hj
            rw [getD_setL _ _ _ _ (by omega), getD_row (by simp [hsz]) (by omega), hl]
            by_cases hin : off ≤ j ∧ j < off + szOf P t
            · rw [if_pos hin, if_pos hin]
              have := q2 (j - off) (by omega)
              have h8 := (this.ren (putOF lv u off) (p' := .cl lv u j) (by simp only [putOF]; congr 1; omega)).mono (G' := G1.ren (putOF lv u off)) (w' := w') (p' := .cl lv u j) ⟨fun _ _ _ e => e, fun _ _ _ e => e⟩ (fun k hk => ⟨hoth k (by
                rintro rfl
                have hω' := ren_ω (f := putOF lv u off) hω
                rw [hk] at hω'
                cases hω'), fun _ => rfl, hk⟩)
              simpa [List.getD_eq_getElem?_getD, Array.getD_eq_getD_getElem?] using h8
            · rw [if_neg hin, if_neg hin]
              exact (hT j hj).mono (G1.ren_le _) (fun k hk => ⟨hoth k (by rintro rfl; rw [hω] at hk; cases hk), fun _ => rfl, by rw [ren_ω hk]; rfl⟩)
        · cases hωk : G1.ω k with
          | none => simp [Gh.ren, hωk]
          | some p =>
            rw [ren_ω hωk]
            cases p with
            | rs c j => exact absurd trivial (hm _ hωk)
            | _ => rfl
      · cases hv
    · cases hv
  · rename_i lv u i sz
    split at hv
    · rename_i v s2 htr
      split at hv
      · rename_i sz' l ho
        split at hv
        · rename_i hc
          obtain ⟨hsz, rfl, hfl, hz, hi⟩ := hc
          obtain rfl := Option.some.inj hv
          obtain ⟨G1, h1, h2, h3, h4, h5, h6⟩ := h.tree htr
          obtain ⟨g, hg, hxe⟩ := hx.eptr_inv
          have hg1 := h2.le.β _ _ _ hg
          obtain ⟨g', hg', hω, en, ety, hbk, hlen, hs, hT, hS⟩ := h1.obj lv u _ ho
          obtain rfl : g' = g := by rw [hg1] at hg'; exact (Option.some.inj hg').symm
          have hS' : ∀ j, G1.S g' j = none := hS
          obtain ⟨q1, q2⟩ := tr_cells h3 h5
          have hszt : szOf P t ≠ 0 := by omega
          have hcz : (a.eval y).cells.size = szOf P t := by omega
          have hbd : i * sz' + sz' ≤ en.size := by
            refine Nat.le_trans ?_ hlen
            calc i * sz' + sz' = (i + 1) * sz' := by rw [Nat.succ_mul]
              _ ≤ l.length * sz' := Nat.mul_le_mul_right _ hi
          have hone : ∀ z ∈ (a.eval y).cells.toList, z.oneCell' = true := by
            intro z hz'
            obtain ⟨j, hj, rfl⟩ := List.getElem_of_mem hz'
            have hj' : j < v.flat.length := by simp at hj; omega
            have h7 := q2 j hj'
            have h8 : pureC (v.flat.getD j .undef) = true := by
              rw [List.all_eq_true] at h4
              refine h4 _ ?_
              rw [List.getD_eq_getElem?_getD, List.getElem?_eq_getElem hj', Option.getD_some]
              exact List.getElem_mem hj'
            have := (cells_one h7 (by intro e; rw [e] at h8; cases h8) (by intro l e; rw [e] at h8; cases h8)).2
            rw [getD_array_of (by simpa using hj)] at this
            simpa using this
          have hst := store_run (P := P) hszt hbk hcz (off := i * sz') (by omega) hone
          have hnew := setRow_heap w g' en (en.toList.take (i * sz') ++ (a.eval y).cells.toList ++ en.toList.drop (i * sz' + szOf P t)).toArray ety _ hbk
          generalize hw' : w.setRow g' (en.toList.take (i * sz') ++ (a.eval y).cells.toList ++ en.toList.drop (i * sz' + szOf P t)).toArray = w' at hst hnew
          have hoth : ∀ k, k ≠ g' → w'.heap[k]? = w.heap[k]? := fun k hk => by rw [← hw']; exact setRow_other w g' k _ hk
          have hws : w'.heap.size = w.heap.size := by rw [← hw']; simp
          refine fin hxe hst (h1.setOb (G' := G1) ho hg1 hω (Le.refl _) rfl (fun k p hk hp hr hpk => ⟨hoth k hk, fun _ => rfl, hpk⟩) (fun k j c hc => ?_) (fun k p hp => by rw [hws]; exact h1.lim k p hp) hω ?_) (h2.fr.trans ⟨by rw [← hw']; rfl, by rw [← hw']; rfl, by rw [← hw']; rfl, by rw [hws]; exact Nat.le_refl _, fun k hk hm => ⟨hoth k (by rintro rfl; exact hm _ hω trivial), rfl, fun _ => rfl⟩, fun _ _ _ e => e, fun _ _ _ => rfl⟩)
          · have hkg : k ≠ g' := by rintro rfl; rw [hS'] at hc; cases hc
            have := h1.imm _ _ _ hc
            simp only [World.cell?, hoth k hkg]
            exact this
          · refine ⟨_, ety, hnew, by rw [size_row (by simp [hcz]) (by omega), List.length_set]; exact hlen, fun z hz' => ?_, fun p q hp hq => ?_, hS⟩
            · rcases List.mem_or_eq_of_mem_set hz' with hz' | rfl
              · exact hs z hz'
              · exact ⟨hfl, h4⟩
            · rw [List.length_set] at hp
              rw [getD_row (by simp [hcz]) (by omega)]
              by_cases hpi : p = i
              · subst hpi
                have e1 : (l.set p v).getD p .undef = v := by simp [List.getD_eq_getElem?_getD, hp]
                rw [if_pos (by omega), e1]
                have := q2 q (by omega)
                simpa [List.getD_eq_getElem?_getD, Array.getD_eq_getD_getElem?, show p * sz' + q - p * sz' = q by omega] using this
              · have e1 : (l.set i v).getD p .undef = l.getD p .undef := by simp [List.getD_eq_getElem?_getD, List.getElem?_set, Ne.symm hpi]
                have hne : ¬ (i * sz' ≤ p * sz' + q ∧ p * sz' + q < i * sz' + szOf P t) := by
                  rintro ⟨a1, a2⟩
                  rcases Nat.lt_or_gt_of_ne hpi with hlt | hgt
                  · have := cell_lt hlt hq; omega
                  · have := Nat.mul_le_mul_right sz' (show i + 1 ≤ p from hgt)
                    rw [Nat.succ_mul] at this
                    omega
                rw [if_neg hne, e1]
                exact hT p q hp hq
        · cases hv
      · cases hv
    · cases hv
  · cases hv
end Go.Ev
namespace Go.Ev
open Go
set_option linter.unusedVariables false
set_option linter.unusedSimpArgs false
variable {P : Program} {G : Gh} {s : St} {a : Act} {w : World} {o : Oper}
variable {d : Option Nat} {ty : TypeId} {pos : String} {af : Array Edge} {gd : Option (Nat × Bool)}

def extF (lv u i : Nat) : Pl → Pl
  | .tm l t c j => if l = lv ∧ t = u ∧ c = i then .rs 0 j else .tm l t c j
  | p => p
theorem OwnV.tup {p : Nat → Pl} {m : List V} {x : Value} (h : OwnV G w p (.tup m) x) : False := OwnC.tup (w := w) (p := p 0) h
theorem op_extract {u i : Nat} {l : List V} {v : V} (h : Rel G s a w) (hu : s.t u = .tup l) (hv : l[i]? = some v) : OpOk P ⟨d, .extract (.tmp u) i, ty, pos, af, gd⟩ G s a w v (s.put u (.tup (l.set i .undef))) := by
  have h1 := h.slot u
  rw [hu] at h1
  obtain ⟨vs, hx, hl, hT⟩ := h1
  have hi : i < l.length := by
    rcases Nat.lt_or_ge i l.length with h' | h'
    · exact h'
    · rw [List.getElem?_eq_none h'] at hv; cases hv
  have hiv : i < vs.size := by omega
  have hvi : l.getD i .undef = v := by rw [List.getD_eq_getElem?_getD, hv]; rfl
  have h2 := hT i hi
  rw [hvi] at h2
  have h3 : OwnV (G.ren (extF s.lv u i)) w (Pl.rs 0) v (vs.getD i Go.undef) := h2.ren _ fun j => by simp [extF]
  refine ⟨vs.getD i Go.undef, w, G.ren (extF s.lv u i), ?_, ⟨h.size, h.defers, fun t => ?_, fun lv t ob hob => ?_, h.dom, h.imm, ren_lim h.lim⟩, OwnV.toS h3 (fun m e => by rw [e] at h3; exact h3.tup), ren_fr fun p => ?_⟩
  · simp only [execOp, Act.eval, hx]
    refine run_val ?_
    simp [Instr.extract, hiv, Array.getD]
  · by_cases ht : t = u
    · subst ht
      have : (s.put t (.tup (l.set i .undef))).t t = .tup (l.set i .undef) := by simp [St.put, upd]
      rw [this]
      refine ⟨vs, hx, by simpa using hl, fun k hk => ?_⟩
      rw [List.length_set] at hk
      by_cases hki : k = i
      · subst hki
        have : (l.set k .undef).getD k .undef = .undef := by simp [List.getD_eq_getElem?_getD, hk]
        rw [this]
        exact Tr.undef _
      · have : (l.set i .undef).getD k .undef = l.getD k .undef := by simp [List.getD_eq_getElem?_getD, List.getElem?_set, Ne.symm hki]
        rw [this]
        exact (hT k hk).ren _ fun j => by
          have : (St.put s t (.tup (l.set i .undef))).lv = s.lv := rfl
          simp [extF, hki, this]
    · have : (s.put u (.tup (l.set i .undef))).t t = s.t t := by simp [St.put, upd, ht]
      rw [this]
      exact (h.slot t).ren _ fun c j => by
        have : (St.put s u (.tup (l.set i .undef))).lv = s.lv := rfl
        simp [extF, ht, this]
  · obtain ⟨g, k1, k2, k3⟩ := h.obj lv t ob hob
    exact ⟨g, k1, by rw [ren_ω k2]; rfl, k3.ren _ fun j => rfl⟩
  · cases p with
    | tm l' t c j =>
      by_cases hh : l' = s.lv ∧ t = u ∧ c = i
      · exact .inr (by rw [hh.1]; exact Nat.le_refl _)
      · exact .inl (by simp [extF, hh])
    | _ => exact .inl rfl

theorem getD_fold {off : Nat} {v cs : Array Value} (h : off + v.size ≤ cs.size) : (v.zipIdx.foldl (fun cs (x : Value × Nat) => cs.setIfInBounds (off + x.2) x.1) cs).size = cs.size ∧ ∀ k, (v.zipIdx.foldl (fun cs (x : Value × Nat) => cs.setIfInBounds (off + x.2) x.1) cs).getD k Go.undef = if off ≤ k ∧ k < off + v.size then v.getD (k - off) Go.undef else cs.getD k Go.undef := by
  have e : v.zipIdx.foldl (fun cs (x : Value × Nat) => cs.setIfInBounds (off + x.2) x.1) cs = (v.toList.zipIdx 0).foldl (fun cs (x : Value × Nat) => cs.setIfInBounds (off + x.2) x.1) cs := by
    rw [← Array.foldl_toList, Array.toList_zipIdx]
  rw [e]
  obtain ⟨h1, h2⟩ := Great.foldl_set off v.toList 0 cs
  refine ⟨h1, fun k => ?_⟩
  rw [Array.getD_eq_getD_getElem?, h2 k, Nat.add_zero, Array.length_toList]
  by_cases hk : off ≤ k ∧ k < off + v.size
  · rw [if_pos ⟨hk.1, hk.2, by omega⟩, if_pos hk]
    simp [Array.getD_eq_getD_getElem?]
  · rw [if_neg (fun e => hk ⟨e.1, e.2.1⟩), if_neg hk]
    simp [Array.getD_eq_getD_getElem?]
def accF (off : Nat) : Pl → Pl
  | .rs 0 j => .rs 1 (off + j)
  | p => p
theorem Rel.ren_rs (h : Rel G s a w) (f : Pl → Pl) (hf : ∀ p, (∀ c j, p ≠ .rs c j) → f p = p) : Rel (G.ren f) s a w ∧ Fr s.lv G w (G.ren f) w := by
  refine ⟨⟨h.size, h.defers, fun t => (h.slot t).ren _ fun c j => hf _ (fun _ _ e => by cases e), fun lv t ob hob => ?_, h.dom, h.imm, ren_lim h.lim⟩, ren_fr fun p => ?_⟩
  · obtain ⟨g, k1, k2, k3⟩ := h.obj lv t ob hob
    exact ⟨g, k1, by rw [ren_ω k2, hf _ (fun _ _ e => by cases e)], k3.ren _ fun j => hf _ (fun _ _ e => by cases e)⟩
  · cases p with
    | rs c j => exact .inr trivial
    | _ => exact .inl (hf _ (fun _ _ e => by cases e))
theorem buildF_spec (fs : Array Field) (places : List (Nat × Nat)) (hp : ∀ (i : Nat) (f : Field), fs[i]? = some f → places.toArray[i]? = some (f.offset, szOf P f.type)) : ∀ (ps : List (Nat × Operand)) {G : Gh} {s s1 : St} {cs cs1 : List V} {ccs : Array Value}, Rel G s a w → cs.length = ccs.size →
    (∀ j, j < cs.length → OwnC G w (.rs 1 j) (cs.getD j .undef) (ccs.getD j Go.undef)) → buildF P fs s cs ps = some (cs1, s1) →
    ∃ ccs1 G1, Instr.fill (places.toArray[·]?) ccs (ps.map fun p => (p.1, a.eval p.2)) = some ccs1 ∧ Rel G1 s1 a w ∧ Fr s.lv G w G1 w ∧ s1.lv = s.lv ∧ cs1.length = ccs1.size ∧ ∀ j, j < cs1.length → OwnC G1 w (.rs 1 j) (cs1.getD j .undef) (ccs1.getD j Go.undef) := by
  intro ps
  induction ps with
  | nil =>
    intro G s s1 cs cs1 ccs h hl hc hb
    simp only [buildF, Option.some.injEq, Prod.mk.injEq] at hb
    obtain ⟨rfl, rfl⟩ := hb
    exact ⟨ccs, G, rfl, h, Fr.refl _ _ _, rfl, hl, hc⟩
  | cons p ps ih =>
    intro G s s1 cs cs1 ccs h hl hc hb
    obtain ⟨i, x⟩ := p
    simp only [buildF] at hb
    split at hb
    · rename_i f hf
      split at hb
      · rename_i hsz
        obtain ⟨hn, hle⟩ := hsz
        obtain ⟨G1, h1, h2, h3, h4, h5, h6⟩ := h.all P f.type x
        have hvv : s.all P f.type x ≠ .undef ∧ (∀ l, s.all P f.type x ≠ .tup l) ∧ buildF P fs (s.drop x) (setL cs f.offset (s.all P f.type x).flat) ps = some (cs1, s1) := by
          split at hb
          · cases hb
          · cases hb
          · rename_i h7 h8
            exact ⟨fun e => h8 e, fun l e => h7 l e, hb⟩
        obtain ⟨hu, ht, hb⟩ := hvv
        obtain ⟨q1, q2⟩ := (h2.toV ht).cells hu ht
        obtain ⟨r1, r2⟩ := h1.ren_rs (accF f.offset) (fun p hp => by cases p <;> first | rfl | exact absurd rfl (hp _ _))
        have hcs : (a.eval x).cells.size = szOf P f.type := by omega
        have hf2 := getD_fold (off := f.offset) (v := (a.eval x).cells) (cs := ccs) (by omega)
        obtain ⟨ccs1, G2, k1, k2, k3, k4, k5, k6⟩ := ih (ccs := (a.eval x).cells.zipIdx.foldl (fun cs (x : Value × Nat) => cs.setIfInBounds (f.offset + x.2) x.1) ccs) r1 (by rw [length_setL _ _ _ hle, hf2.1]; exact hl) (fun j hj => by
          rw [length_setL _ _ _ hle] at hj
          rw [getD_setL _ _ _ _ hle, hf2.2 j, hcs, hn]
          by_cases hin : f.offset ≤ j ∧ j < f.offset + szOf P f.type
          · rw [if_pos hin, if_pos hin]
            exact (q2 (j - f.offset) (by omega)).ren _ (by simp only [accF]; congr 1; omega)
          · rw [if_neg hin, if_neg hin]
            refine (hc j hj).mono (p' := .rs 1 j) ⟨fun g i c e => by show G1.S g i = some c; rw [h5]; exact e, fun l t g e => by show G1.β l t = some g; rw [h6]; exact e⟩ (fun g hg => ⟨rfl, fun i => by show G1.S g i = _; rw [h5], ?_⟩)
            rw [ren_ω (h4 _ _ _ hg)]; rfl) hb
        refine ⟨ccs1, G2, ?_, k2, ?_, k4.trans (drop_lv x), k5, k6⟩
        · simp only [List.map_cons, Instr.fill]
          rw [hp i f hf]
          simp only
          have : ((a.eval x).cells.size ≠ szOf P f.type || decide (f.offset + (a.eval x).cells.size > ccs.size)) = false := by
            simp only [ne_eq, hcs, not_true_eq_false, decide_false, Bool.false_or, decide_eq_false_iff_not]
            omega
          rw [if_neg (by rw [this]; simp)]
          exact k1
        · have := k3
          rw [drop_lv] at this r2
          exact (h3.trans r2).trans this
      · cases hb
    · cases hb
theorem places_ok (fs : List Field) (h : fs.all (fun f => szOf P f.type != 0) = true) : ∃ places, fs.mapM (fun f => (P.info? f.type).map fun i => (f.offset, i.size)) = some places ∧ ∀ (i : Nat) (f : Field), fs[i]? = some f → places[i]? = some (f.offset, szOf P f.type) := by
  induction fs with
  | nil => exact ⟨[], rfl, fun i f hf => by cases hf⟩
  | cons f fs ih =>
    simp only [List.all_cons, Bool.and_eq_true, bne_iff_ne, ne_eq] at h
    obtain ⟨places, h1, h2⟩ := ih h.2
    obtain ⟨i, d, g1, g2, g3, g4⟩ := szOf_ne h.1
    refine ⟨(f.offset, i.size) :: places, by simp [List.mapM_cons, g1, h1], fun k f' hf => ?_⟩
    cases k with
    | zero => simp only [List.getElem?_cons_zero, Option.some.injEq] at hf ⊢; subst hf; rw [g3]
    | succ k => exact h2 k f' (by simpa using hf)
def finF : Pl → Pl
  | .rs 1 j => .rs 0 j
  | .rs 0 j => .rs 2 j
  | p => p
theorem op_build {t : TypeId} {fs : Array Field} {z cs1 : List V} {ps : Array (Nat × Operand)} {s1 : St} (h : Rel G s a w) (hu : P.underlying t = some (.struct fs)) (hz : zero P t = some z) (hf : fs.toList.all (fun f => szOf P f.type != 0) = true)
    (hb : buildF P fs s z ps.toList = some (cs1, s1)) : OpOk P ⟨d, .build t ps, ty, pos, af, gd⟩ G s a w (.agg cs1) s1 := by
  obtain ⟨places, p1, p2⟩ := places_ok fs.toList hf
  obtain ⟨zv, z1, z2, z3, _⟩ := zero_spec hz
  obtain ⟨ccs1, G1, k1, k2, k3, k4, k5, k6⟩ := buildF_spec (P := P) (w := w) fs places (fun i f hf => by have := p2 i f (by simpa using hf); simpa using this) ps.toList h z2 (fun j hj => agree_tr (z3 j hj) _) hb
  obtain ⟨r1, r2⟩ := k2.ren_rs finF (fun p hp => by cases p <;> first | rfl | exact absurd rfl (hp _ _))
  rw [k4] at r2
  refine ⟨.agg ccs1, w, G1.ren finF, ?_, r1, ⟨ccs1, rfl, k5, fun j hj => (k6 j hj).ren _ rfl⟩, k3.trans r2⟩
  simp only [execOp]
  refine run_val ?_
  obtain ⟨it, hit, hzi⟩ : ∃ it, P.info? t = some it ∧ it.zero = some zv := by
    have := z1 default
    simp only [zeroValue, Sem.run_bind, typeInfo, run_program, Result.andThen_ok] at this
    cases hh : P.info? t with
    | none => simp [hh] at this
    | some it =>
      simp only [hh, Sem.run_pure, Result.andThen_ok] at this
      cases hh2 : it.zero with
      | none => simp [hh2] at this
      | some y => simp [hh2] at this; exact ⟨it, rfl, by rw [hh2, this]⟩
  refine run_build w t _ ccs1 ?_
  unfold Program.built
  simp only [hit, hu, hzi, p1]
  rw [← k1]
  congr 1
  simp
theorem op_buildArray {t e : TypeId} {n : Nat} {z : List V} {ps : Array (Nat × Operand)} {vs : List V} {s1 : St} (h : Rel G s a w) (hu : P.underlying t = some (.array n e)) (hz : zero P t = some z) (hsz : szOf P e ≠ 0) (hzl : z.length = n * szOf P e) (ho : inOrder 0 ps.toList = true) (hn : ps.size = n)
    (ht : St.trees P s (ps.toList.map fun p => (e, p.2)) = some (vs, s1)) (hf : vs.all (fun v => v.flat.length == szOf P e) = true) : OpOk P ⟨d, .build t ps, ty, pos, af, gd⟩ G s a w (.agg (vs.map V.flat).flatten) s1 := by
  obtain ⟨G1, h1, h2, h3, h4, h5, h6⟩ := parts_laid (t := t) (n := n) h hsz ht hf
  obtain ⟨zv, z1, z2, z3, _⟩ := zero_spec hz
  obtain ⟨it, hit, hzi⟩ : ∃ it, P.info? t = some it ∧ it.zero = some zv := by
    have := z1 default
    simp only [zeroValue, Sem.run_bind, typeInfo, run_program, Result.andThen_ok] at this
    cases hh : P.info? t with
    | none => simp [hh] at this
    | some it =>
      simp only [hh, Sem.run_pure, Result.andThen_ok] at this
      cases hh2 : it.zero with
      | none => simp [hh2] at this
      | some y => simp [hh2] at this; exact ⟨it, rfl, by rw [hh2, this]⟩
  obtain ⟨ie, d', g1, g2, g3, g4⟩ := szOf_ne hsz
  have hflat : ∀ (l : List V), (∀ v ∈ l, v.flat.length = szOf P e) → ((l.map V.flat).flatten.length = l.length * szOf P e ∧ ∀ i j, i < l.length → j < szOf P e → (l.map V.flat).flatten.getD (i * szOf P e + j) .undef = (l.getD i .undef).flat.getD j .undef) := by
    intro l
    induction l with
    | nil => intro _; exact ⟨by simp, fun i j hi => absurd hi (Nat.not_lt_zero _)⟩
    | cons v l ih =>
      intro hv
      obtain ⟨i1, i2⟩ := ih (fun v hv' => hv v (List.mem_cons_of_mem _ hv'))
      have hv0 := hv v List.mem_cons_self
      refine ⟨by simp only [List.map_cons, List.flatten_cons, List.length_append, i1, hv0, List.length_cons, Nat.succ_mul]; omega, fun i j hi hj => ?_⟩
      simp only [List.map_cons, List.flatten_cons, List.getD_eq_getElem?_getD]
      cases i with
      | zero => rw [Nat.zero_mul, Nat.zero_add, List.getElem?_append_left (by omega)]; rfl
      | succ i =>
        rw [List.getElem?_append_right (by rw [Nat.succ_mul]; omega), show (i + 1) * szOf P e + j - v.flat.length = i * szOf P e + j by rw [Nat.succ_mul]; omega]
        have := i2 i j (by simpa using hi) hj
        simpa [List.getD_eq_getElem?_getD] using this
  have hall : ∀ v ∈ vs, v.flat.length = szOf P e := fun v hv => by rw [List.all_eq_true] at hf; simpa using hf v hv
  obtain ⟨f1, f2⟩ := hflat vs hall
  refine ⟨.agg ((ps.toList.map fun p => a.eval p.2).flatMap fun v => v.cells.toList).toArray, w, G1, ?_, h1, OwnS.of_tr' (Tr.agg _ _ (by rw [f1]; exact h6.symm) fun k hk => ?_), h2.fr⟩
  · simp only [execOp]
    refine run_val ?_
    refine run_build w t _ _ ?_
    unfold Program.built
    simp only [hit, hu, hzi, g1]
    have hparts : (ps.map fun (i, x) => (i, a.eval x)).toList = ((ps.toList.map fun p => a.eval p.2).zipIdx 0).map fun x => (x.2, x.1) := by
      rw [Array.toList_map]
      exact inOrder_zip a.eval ps.toList 0 ho
    rw [hparts, ← g3]
    exact Great.fill_whole (by omega) _ _ h5 (by rw [← z2, hzl]; simp [hn])
  · rw [f1] at hk
    have hpos : 0 < szOf P e := by omega
    have d1 : k / szOf P e < vs.length := Nat.div_lt_of_lt_mul (by rw [Nat.mul_comm]; exact hk)
    have d2 : k % szOf P e < szOf P e := Nat.mod_lt _ hpos
    have d3 : k / szOf P e * szOf P e + k % szOf P e = k := by have := Nat.div_add_mod k (szOf P e); rw [Nat.mul_comm] at this; exact this
    have e1 := f2 _ _ d1 d2
    rw [d3] at e1
    rw [e1]
    have := h4.2.2 _ _ d1 d2
    rw [d3] at this
    exact this
end Go.Ev
namespace Go.Ev
open Go
set_option linter.unusedVariables false
set_option linter.unusedSimpArgs false
variable {P : Program} {G : Gh} {s : St} {a : Act} {w : World} {o : Oper}
variable {d : Option Nat} {ty : TypeId} {pos : String} {af : Array Edge} {gd : Option (Nat × Bool)}

theorem checkKey_scalar {td : TypeDesc} (hs : (∃ k, td = .int k) ∨ td = .bool ∨ td = .string) {t : TypeId} (ht : P.underlying t = some td) (b : Bool) (n : Nat) (x : Value) (w : World) : (Instr.checkKey b (n + 1) t x).run P w = .ok () w := by
  rcases hs with ⟨k, rfl⟩ | rfl | rfl <;> simp [Instr.checkKey, run_underlying ht]
theorem forIn_ok {α : Type} : ∀ (l : List α) (f : α → PUnit → Sem (ForInStep PUnit)), (∀ x ∈ l, ∀ (r : PUnit) (w : World), (f x r).run P w = .ok (.yield PUnit.unit) w) → ∀ w : World, (forIn l PUnit.unit f).run P w = .ok PUnit.unit w := by
  intro l
  induction l with
  | nil => intro f _ w; rfl
  | cons x l ih =>
    intro f h w
    simp only [List.forIn_cons, Sem.run_bind, h x List.mem_cons_self, Result.andThen_ok]
    exact ih f (fun y hy => h y (List.mem_cons_of_mem _ hy)) w
theorem sameF_mem : ∀ (fs : List Field) (n : Nat) (l m : List V) (r : Bool), sameF P n fs l m = some r → ∀ f ∈ fs, ∃ td, P.underlying f.type = some td ∧ ((∃ k, td = .int k) ∨ td = .bool ∨ td = .string) ∧ f.offset < n + l.length := by
  intro fs
  induction fs with
  | nil => intro n l m r _ f hf; cases hf
  | cons g fs ih =>
    intro n l m r h f hf
    cases l with
    | nil => simp [sameF] at h
    | cons b l =>
      cases m with
      | nil => simp [sameF] at h
      | cons c m =>
        simp only [sameF] at h
        split at h
        · rename_i hg
          split at h
          · rename_i td htd
            split at h
            · rename_i p q hp hq
              rcases List.mem_cons.1 hf with rfl | hf
              · exact ⟨td, htd, sameT_scalar hp, by simp [hg.1]⟩
              · obtain ⟨td', k1, k2, k3⟩ := ih (n + 1) l m q hq f hf
                exact ⟨td', k1, k2, by simp; omega⟩
            · cases h
          · cases h
        · cases h
theorem sameA_td {td : TypeDesc} : ∀ (l m : List V) (r : Bool), sameA td l m = some r → l ≠ [] → (∃ k, td = .int k) ∨ td = .bool ∨ td = .string := by
  intro l m r h hl
  cases l with
  | nil => exact absurd rfl hl
  | cons b l =>
    cases m with
    | nil => simp [sameA] at h
    | cons c m =>
      simp only [sameA] at h
      split at h
      · rename_i p q hp hq; exact sameT_scalar hp
      · cases h
theorem checkKey_run' {kt : TypeId} {k : V} {x : Value} (h : (eqV P kt k k).isSome = true) (hk : Tr G.S G.β k x) (b : Bool) (w : World) (n0 : Nat) : (Instr.checkKey b (n0 + 1 + 1) kt x).run P w = .ok () w := by
  obtain ⟨r, hr⟩ := Option.isSome_iff_exists.1 h
  unfold eqV at hr
  split at hr
  · rename_i fs hu
    split at hr
    · split at hr
      · rename_i l
        obtain ⟨xs, rfl, hl, hxl⟩ := hk.agg_inv
        rw [Instr.checkKey]
        simp only [Sem.run_bind, run_underlying hu, Result.andThen_ok]
        rw [← Array.forIn_toList, forIn_ok]
        · rfl
        · intro f hf r w
          obtain ⟨td, k1, k2, k3⟩ := sameF_mem fs.toList 0 _ _ _ hr f hf
          by_cases hn : f.name ≠ "_"
          · simp only [if_pos hn, Sem.run_bind, part_scalar k2 k1 (show f.offset < xs.size by omega), Result.andThen_ok, checkKey_scalar k2 k1, Sem.run_pure]
          · simp only [if_neg hn, Sem.run_pure]
      · cases hr
    · cases hr
  · rename_i n e hu
    split at hr
    · rename_i l
      split at hr
      · rename_i hc
        split at hr
        · rename_i td he
          obtain ⟨xs, rfl, hl, hxl⟩ := hk.agg_inv
          obtain ⟨i, d, g1, g2, g3, g4⟩ := szOf_ne (P := P) (t := e) (by omega)
          rw [Instr.checkKey]
          simp only [Sem.run_bind, run_underlying hu, Result.andThen_ok]
          simp only [Std.Legacy.Range.forIn_eq_forIn_range', Std.Legacy.Range.size, Nat.sub_zero, Nat.add_one_sub_one, Nat.div_one]
          rw [forIn_ok]
          · rfl
          · intro j hj r w
            have hj' : j < l.length := by rw [List.mem_range'] at hj; omega
            have hs := sameA_td _ _ _ hr (by rintro rfl; simp at hj')
            simp only [Sem.run_bind, run_sizeOf' (P := P) (t := e) (by omega), Result.andThen_ok, hc.2, Nat.mul_one, part_scalar hs he (show j < xs.size by omega), checkKey_scalar hs he, Sem.run_pure]
        · cases hr
      · cases hr
    · cases hr
  · rename_i td _ _ hu
    exact checkKey_scalar (sameT_scalar hr) hu _ _ _ _
  · cases hr
theorem checkKey_run {kt : TypeId} {k : V} {x : Value} (h : (eqV P kt k k).isSome = true) (hk : Tr G.S G.β k x) (b : Bool) (w : World) : (Instr.checkKey b 10000 kt x).run P w = .ok () w := checkKey_run' h hk b w 9998

/-! ### finding -/
theorem sameNow_eq {td : TypeDesc} {x y : V} {r : Bool} {b c : Value} (h : sameT td x y = some r) (hx : Tr G.S G.β x b) (hy : Tr G.S G.β y c) : (∃ r', Instr.sameNow td b c = some r' ∧ r' = r) ∨ Instr.sameNow td b c = none := by
  unfold sameT at h
  split at h
  · split at h
    · rename_i hk; subst hk
      obtain rfl := Option.some.inj h
      rw [hx.int_inv, hy.int_inv]
      exact .inl ⟨_, by simp [Instr.sameNow], rfl⟩
    · cases h
  · obtain rfl := Option.some.inj h
    rw [hx.bool_inv, hy.bool_inv]
    exact .inl ⟨_, rfl, rfl⟩
  · obtain rfl := Option.some.inj h
    rw [hx.str_inv, hy.str_inv]
    exact .inl ⟨_, rfl, beq_toListBytes _ _⟩
  · cases h
/-- entries, pair by pair -/
def EntR (G : Gh) (es : List (V × V)) (en : List MapEntry) : Prop := es.length = en.length ∧ ∀ (i : Nat) (e : V × V) (m : MapEntry), es[i]? = some e → en[i]? = some m → Tr G.S G.β e.1 m.key ∧ Tr G.S G.β e.2 m.val
theorem EntR.cons {e : V × V} {es : List (V × V)} {m : MapEntry} {en : List MapEntry} (h : EntR G (e :: es) (m :: en)) : Tr G.S G.β e.1 m.key ∧ Tr G.S G.β e.2 m.val ∧ EntR G es en :=
  ⟨(h.2 0 e m rfl rfl).1, (h.2 0 e m rfl rfl).2, by have := h.1; simpa using this, fun i e' m' h1 h2 => h.2 (i + 1) e' m' (by simpa using h1) (by simpa using h2)⟩
/-- the first entry with a key: its number and its value -/
def findI (P : Program) (kt : TypeId) (k : V) : List (V × V) → Nat → Option (Option (Nat × V))
  | [], _ => some none
  | e :: es, i => match eqV P kt k e.1 with
    | some true => some (some (i, e.2))
    | some false => findI P kt k es (i + 1)
    | none => none
theorem findI_find {kt : TypeId} {k : V} : ∀ (es : List (V × V)) (i : Nat) (r : Option V), findE P kt k es = some r → ∃ q, findI P kt k es i = some q ∧ q.map (·.2) = r := by
  intro es
  induction es with
  | nil => intro i r h; simp only [findE, Option.some.injEq] at h; subst h; exact ⟨none, rfl, rfl⟩
  | cons e es ih =>
    intro i r h
    simp only [findE] at h
    split at h
    · rename_i he
      obtain rfl := Option.some.inj h
      exact ⟨some (i, e.2), by simp [findI, he], rfl⟩
    · rename_i he
      obtain ⟨q, h1, h2⟩ := ih (i + 1) r h
      exact ⟨q, by simp [findI, he, h1], h2⟩
    · cases h
theorem findAsking_run {kt : TypeId} {k : V} {x : Value} (hk : Tr G.S G.β k x) (w : World) : ∀ (es : List (V × V)) (en : List MapEntry) (i : Nat) (q : Option (Nat × V)), EntR G es en → findI P kt k es i = some q →
    ∃ q', (Instr.findAsking kt x en i).run P w = .ok q' w ∧ (q = none → q' = none) ∧ ∀ j v, q = some (j, v) → i ≤ j ∧ ∃ m, en[j - i]? = some m ∧ q' = some (j, m.val) ∧ Tr G.S G.β v m.val := by
  intro es
  induction es with
  | nil =>
    intro en i q he h
    have : en = [] := List.eq_nil_of_length_eq_zero he.1.symm
    subst this
    simp only [findI, Option.some.injEq] at h
    subst h
    exact ⟨none, rfl, fun _ => rfl, fun j v e => by cases e⟩
  | cons e es ih =>
    intro en i q he h
    cases en with
    | nil => have := he.1; simp at this
    | cons m en =>
      obtain ⟨h1, h2, h3⟩ := he.cons
      simp only [findI] at h
      split at h
      · rename_i hq
        obtain rfl := Option.some.inj h
        have e1 := eqV_run hq hk h1 w
        refine ⟨some (i, m.val), by simp [Instr.findAsking, e1], (fun e => by cases e), fun j v e => ?_⟩
        cases e
        exact ⟨Nat.le_refl _, m, by simp, rfl, h2⟩
      · rename_i hq
        have e1 := eqV_run hq hk h1 w
        obtain ⟨q', k1, k2, k3⟩ := ih en (i + 1) q h3 h
        refine ⟨q', by simp [Instr.findAsking, e1, k1], k2, fun j v e => ?_⟩
        obtain ⟨k4, m', k5, k6, k7⟩ := k3 j v e
        refine ⟨by omega, m', ?_, k6, k7⟩
        rw [show j - i = (j - (i + 1)) + 1 by omega, List.getElem?_cons_succ]
        exact k5
      · cases h
theorem findNow_run {kt : TypeId} {td : TypeDesc} (hu : P.underlying kt = some td) {k : V} {x : Value} (hk : Tr G.S G.β k x) : ∀ (es : List (V × V)) (en : List MapEntry) (i : Nat) (q : Option (Nat × V)), EntR G es en → findI P kt k es i = some q →
    Instr.findNow td x en i = none ∨ ∃ q', Instr.findNow td x en i = some q' ∧ (q = none → q' = none) ∧ ∀ j v, q = some (j, v) → i ≤ j ∧ ∃ m, en[j - i]? = some m ∧ q' = some (j, m.val) ∧ Tr G.S G.β v m.val := by
  intro es
  induction es with
  | nil =>
    intro en i q he h
    have : en = [] := List.eq_nil_of_length_eq_zero he.1.symm
    subst this
    simp only [findI, Option.some.injEq] at h
    subst h
    exact .inr ⟨none, rfl, fun _ => rfl, fun j v e => by cases e⟩
  | cons e es ih =>
    intro en i q he h
    cases en with
    | nil => have := he.1; simp at this
    | cons m en =>
      obtain ⟨h1, h2, h3⟩ := he.cons
      simp only [findI] at h
      have hnow : ∀ r, eqV P kt k e.1 = some r → Instr.sameNow td x m.key = some r ∨ Instr.sameNow td x m.key = none := by
        intro r hr
        unfold eqV at hr
        rw [hu] at hr
        cases td
        case struct => cases x <;> cases m.key <;> exact .inr rfl
        case array => cases x <;> cases m.key <;> exact .inr rfl
        all_goals
          rcases sameNow_eq hr hk h1 with ⟨r', a1, rfl⟩ | a1
          · exact .inl a1
          · exact .inr a1
      split at h
      · rename_i hq
        obtain rfl := Option.some.inj h
        rcases hnow _ hq with e1 | e1
        · refine .inr ⟨some (i, m.val), by simp [Instr.findNow, e1], (fun e => by cases e), fun j v e => ?_⟩
          cases e
          exact ⟨Nat.le_refl _, m, by simp, rfl, h2⟩
        · exact .inl (by simp [Instr.findNow, e1])
      · rename_i hq
        rcases hnow _ hq with e1 | e1
        · rcases ih en (i + 1) q h3 h with k1 | ⟨q', k1, k2, k3⟩
          · exact .inl (by simp [Instr.findNow, e1, k1])
          · refine .inr ⟨q', by simp [Instr.findNow, e1, k1], k2, fun j v e => ?_⟩
            obtain ⟨k4, m', k5, k6, k7⟩ := k3 j v e
            refine ⟨by omega, m', ?_, k6, k7⟩
            rw [show j - i = (j - (i + 1)) + 1 by omega, List.getElem?_cons_succ]
            exact k5
        · exact .inl (by simp [Instr.findNow, e1])
      · cases h
theorem findKey_run {kt : TypeId} {td : TypeDesc} (hu : P.underlying kt = some td) {k : V} {x : Value} (hk : Tr G.S G.β k x) (w : World) (es : List (V × V)) (en : List MapEntry) (q : Option (Nat × V)) (he : EntR G es en) (h : findI P kt k es 0 = some q) :
    ∃ q', (Instr.findKey kt x en).run P w = .ok q' w ∧ (q = none → q' = none) ∧ ∀ j v, q = some (j, v) → ∃ m, en[j]? = some m ∧ q' = some (j, m.val) ∧ Tr G.S G.β v m.val := by
  obtain ⟨q1, a1, a2, a3⟩ := findAsking_run (P := P) hk w es en 0 q he h
  rcases findNow_run (P := P) hu hk es en 0 q he h with b1 | ⟨q2, b1, b2, b3⟩
  · refine ⟨q1, ?_, a2, fun j v e => ?_⟩
    · simp only [Instr.findKey, Sem.run_bind, run_underlying hu, Result.andThen_ok, b1, a1]
    · obtain ⟨_, m, c1, c2, c3⟩ := a3 j v e; exact ⟨m, by simpa using c1, c2, c3⟩
  · refine ⟨q2, ?_, b2, fun j v e => ?_⟩
    · simp only [Instr.findKey, Sem.run_bind, run_underlying hu, Result.andThen_ok, b1, Sem.run_pure]
    · obtain ⟨_, m, c1, c2, c3⟩ := b3 j v e; exact ⟨m, by simpa using c1, c2, c3⟩
theorem entR_of {es : List (V × V)} {en : Array MapEntry} (hl : es.length = en.size) (hT : ∀ i, i < es.length → Tr G.S G.β (es.getD i default).1 (en.getD i default).key ∧ Tr G.S G.β (es.getD i default).2 (en.getD i default).val) : EntR G es en.toList := by
  refine ⟨by simpa using hl, fun i e m h1 h2 => ?_⟩
  have hi : i < es.length := by
    rcases Nat.lt_or_ge i es.length with h' | h'
    · exact h'
    · rw [List.getElem?_eq_none h'] at h1; cases h1
  have h3 := hT i hi
  have e1 : es.getD i default = e := by rw [List.getD_eq_getElem?_getD, h1]; rfl
  have e2 : en.getD i default = m := by rw [Array.getD_eq_getD_getElem?, ← Array.getElem?_toList, h2]; rfl
  rw [e1, e2] at h3
  exact h3
theorem zero_pack {e : TypeId} {z : List V} (hz : zero P e = some z) (hc : z.length = 1 ∨ isAgg P e = true) (hu : (P.underlying e).isSome) : ∃ zv, (∀ w : World, (zeroValue e).run P w = .ok zv w) ∧ Tr G.S G.β (pack (isAgg P e) z).view zv := by
  obtain ⟨zv, h1, h2, h3, h4, h5⟩ := zero_spec hz
  refine ⟨zv, h1, ?_⟩
  have hag : ∀ v (x : Value), agree v x = true → (∀ l, v ≠ .agg l) ∧ (∀ l, v ≠ .tup l) := by
    intro v x h
    unfold agree at h
    split at h
    all_goals first | (cases h; done) | exact ⟨(fun l e => by cases e), fun l e => by cases e⟩
  cases ha : isAgg P e
  · have h6 := h5 ha
    rw [h6] at h2 h3
    cases z with
    | nil => simp at h2
    | cons v z =>
      have h7 := h3 0 (by simp)
      have h8 := hag _ _ h7
      simp only [List.getD_cons_zero] at h7 h8
      have h9 := (agree_tr (G := G) (w := default) h7 (.rs 0 0)).view
      simp only [pack, Bool.false_eq_true, if_false, List.headD_cons]
      have : v.view = v.viewC := by
        cases v <;> first | rfl | exact absurd rfl (h8.1 _) | exact absurd rfl (h8.2 _)
      rw [this]
      exact h9
  · obtain ⟨cs, rfl⟩ := h4 ha
    simp only [pack, if_true, V.view]
    refine Tr.agg _ _ (by rw [List.length_map]; exact h2) fun i hi => ?_
    rw [getD_viewC]
    exact (agree_tr (G := G) (w := default) (h3 i (by simpa using hi)) (.rs 0 0)).view
theorem op_lookup {m k : Operand} {t kt e : TypeId} {ok : Bool} {v : V} (h : Rel G s a w) (hu : P.underlying t = some (.map kt e)) (hv : vLookup P s t ok (s.see P t m) (s.see P kt k) = some v) : OpOk P ⟨d, .lookup t m k ok, ty, pos, af, gd⟩ G s a w v s := by
  have h1 := h.see P t m
  have h2 := h.see P kt k
  have hkv := see_view s P kt k
  unfold vLookup at hv
  generalize s.see P t m = mv at hv h1
  generalize s.see P kt k = kv at hv h2 hkv
  rw [hu] at hv
  split at hv
  · rename_i kt' e' lv u hh
    obtain ⟨rfl, rfl⟩ : kt = kt' ∧ e = e' := by cases hh; exact ⟨rfl, rfl⟩
    split at hv
    · rename_i es z ho hz
      split at hv
      · rename_i hc
        obtain ⟨hck, hzl, hz0, hza⟩ := hc
        obtain ⟨g, hg, hω, en, ck, hb, hl, hS, hp, hT⟩ := h.obj lv u _ ho
        obtain ⟨g', hg', hx⟩ := h1.mp_inv
        obtain rfl : g' = g := by rw [hg] at hg'; exact (Option.some.inj hg').symm
        have hck' := checkKey_run (P := P) hck h2 en.isEmpty w
        obtain ⟨td, htd⟩ : ∃ td, P.underlying kt = some td := by
          cases hh : P.underlying kt with
          | none => unfold eqV at hck; rw [hh] at hck; cases hck
          | some td => exact ⟨td, rfl⟩
        have hent := entR_of hl hT
        obtain ⟨ie, de, y1, y2, y3, y4⟩ := szOf_ne (P := P) (t := e) (by omega)
        obtain ⟨zv, zr, zt⟩ := zero_pack (G := G) hz hza (by rw [y2]; rfl)
        split at hv
        · rename_i r hf
          obtain rfl := Option.some.inj hv
          obtain ⟨q, hq1, hq2⟩ := findI_find es 0 _ hf
          obtain ⟨q', f1, f2, f3⟩ := findKey_run (P := P) htd h2 w es en.toList q hent hq1
          obtain ⟨⟨j, r'⟩, rfl, rfl⟩ : ∃ x, q = some x ∧ x.2 = r := by
            cases q with
            | none => cases hq2
            | some x => exact ⟨x, rfl, by simpa using hq2⟩
          obtain ⟨me, m1, rfl, m3⟩ := f3 _ _ rfl
          have hrun : (execOp a.eval ⟨d, .lookup t m k ok, ty, pos, af, gd⟩).run P w = .ok (.value (if ok = true then .tuple #[me.val, .bool true] else me.val)) w := by
            simp only [execOp]
            refine run_val ?_
            simp [Instr.lookup, run_underlying hu, hx, getObj, Sem.run, hb, hck', f1]
          cases ok
          · exact OpOk.tr h hrun m3
          · refine ⟨_, w, G, hrun, h, ⟨#[me.val, .bool true], rfl, rfl, fun i hi => ?_⟩, Fr.refl _ _ _⟩
            match i, hi with
            | 0, _ => exact OwnV.of_tr' m3
            | 1, _ => exact OwnV.of_tr' (Tr.bool _)
        · cases hv
        · rename_i hf
          obtain rfl := Option.some.inj hv
          obtain ⟨q, hq1, hq2⟩ := findI_find es 0 _ hf
          obtain ⟨q', f1, f2, f3⟩ := findKey_run (P := P) htd h2 w es en.toList q hent hq1
          have : q = none := by
            cases q with
            | none => rfl
            | some x => cases hq2
          have hq' := f2 this
          subst hq'
          have hrun : (execOp a.eval ⟨d, .lookup t m k ok, ty, pos, af, gd⟩).run P w = .ok (.value (if ok = true then .tuple #[zv, .bool false] else zv)) w := by
            simp only [execOp]
            refine run_val ?_
            simp [Instr.lookup, run_underlying hu, hx, getObj, Sem.run, hb, hck', f1, zr]
          cases ok
          · exact OpOk.tr h hrun zt
          · refine ⟨_, w, G, hrun, h, ⟨#[zv, .bool false], rfl, rfl, fun i hi => ?_⟩, Fr.refl _ _ _⟩
            match i, hi with
            | 0, _ => exact OwnV.of_tr' zt
            | 1, _ => exact OwnV.of_tr' (Tr.bool _)
      · cases hv
    · cases hv
  · cases hv
/-! ### putting an entry -/
theorem sb_scalar {td : TypeDesc} {v u : V} {x y : Value} (h : sameT td v u = some true) (hv : Tr G.S G.β v x) (hu : Tr G.S G.β u y) (n : Nat) : Instr.sameBits n y x = true := by
  unfold sameT at h
  split at h
  · split at h
    · rename_i hk; subst hk
      rw [hv.int_inv, hu.int_inv]
      have := Option.some.inj h
      rw [beq_iff_eq] at this
      subst this
      cases n <;> simp [Instr.sameBits]
    · cases h
  · rw [hv.bool_inv, hu.bool_inv]
    have := Option.some.inj h
    rw [beq_iff_eq] at this
    subst this
    cases n <;> simp [Instr.sameBits]
  · rename_i p q
    rw [hv.str_inv, hu.str_inv]
    have := Option.some.inj h
    have h2 : (q == p) = true := by
      rw [beq_toListBytes]
      rw [beq_iff_eq] at this ⊢
      exact this.symm
    cases n <;> exact h2
  · cases h
theorem sb_list {n : Nat} : ∀ (l k : List V) (xs ys : List Value), l.length = k.length → l.length = xs.length → k.length = ys.length → (∀ i, i < l.length → ∃ td, sameT td (l.getD i .undef) (k.getD i .undef) = some true) →
    (∀ i, i < l.length → Tr G.S G.β (l.getD i .undef) (xs.getD i Go.undef)) → (∀ i, i < k.length → Tr G.S G.β (k.getD i .undef) (ys.getD i Go.undef)) → (ys.zip xs).all (fun (x, y) => Instr.sameBits n x y) = true := by
  intro l
  induction l with
  | nil =>
    intro k xs ys h0 hl hk _ _ _
    have h1 : xs = [] := List.eq_nil_of_length_eq_zero hl.symm
    subst h1
    simp
  | cons b l ih =>
    intro k xs ys h0 hl hk hs hx hy
    cases k with
    | nil => simp at h0
    | cons c k =>
      cases xs with
      | nil => simp at hl
      | cons x xs =>
        cases ys with
        | nil => simp at hk
        | cons y ys =>
          have i1 := ih k xs ys (by simpa using h0) (by simpa using hl) (by simpa using hk) (fun i hi => by simpa using hs (i + 1) (by simpa using hi)) (fun i hi => by simpa using hx (i + 1) (by simpa using hi)) (fun i hi => by simpa using hy (i + 1) (by simpa using hi))
          obtain ⟨td, h1⟩ := hs 0 (by simp)
          have hb := hx 0 (by simp)
          have hc := hy 0 (by simp)
          simp only [List.getD_cons_zero] at hb hc h1
          simp only [List.zip_cons_cons, List.all_cons, i1, Bool.and_true]
          exact sb_scalar h1 hb hc n
theorem sameF_all : ∀ (fs : List Field) (n : Nat) (l m : List V), sameF P n fs l m = some true → l.length = m.length ∧ ∀ i, i < l.length → ∃ td, sameT td (l.getD i .undef) (m.getD i .undef) = some true := by
  intro fs
  induction fs with
  | nil => intro n l m h; cases l <;> cases m <;> simp only [sameF, reduceCtorEq] at h; exact ⟨rfl, fun i hi => absurd hi (Nat.not_lt_zero _)⟩
  | cons f fs ih =>
    intro n l m h
    cases l with
    | nil => simp [sameF] at h
    | cons b l =>
      cases m with
      | nil => simp [sameF] at h
      | cons c m =>
        simp only [sameF] at h
        split at h
        · split at h
          · rename_i td htd
            split at h
            · rename_i p q hp hq
              simp only [Option.some.injEq, Bool.and_eq_true] at h
              obtain ⟨rfl, rfl⟩ := h
              obtain ⟨i1, i2⟩ := ih (n + 1) l m hq
              refine ⟨by simp [i1], fun i hi => ?_⟩
              cases i with
              | zero => exact ⟨td, hp⟩
              | succ i => exact i2 i (by simpa using hi)
            · cases h
          · cases h
        · cases h
theorem sameA_all {td : TypeDesc} : ∀ (l m : List V), sameA td l m = some true → l.length = m.length ∧ ∀ i, i < l.length → ∃ td, sameT td (l.getD i .undef) (m.getD i .undef) = some true := by
  intro l
  induction l with
  | nil => intro m h; cases m <;> simp only [sameA, reduceCtorEq] at h; exact ⟨rfl, fun i hi => absurd hi (Nat.not_lt_zero _)⟩
  | cons b l ih =>
    intro m h
    cases m with
    | nil => simp [sameA] at h
    | cons c m =>
      simp only [sameA] at h
      split at h
      · rename_i p q hp hq
        simp only [Option.some.injEq, Bool.and_eq_true] at h
        obtain ⟨rfl, rfl⟩ := h
        obtain ⟨i1, i2⟩ := ih m hq
        refine ⟨by simp [i1], fun i hi => ?_⟩
        cases i with
        | zero => exact ⟨td, hp⟩
        | succ i => exact i2 i (by simpa using hi)
      · cases h
theorem getD_toList (cs : Array Value) (i : Nat) : cs.toList.getD i Go.undef = cs.getD i Go.undef := by simp [List.getD_eq_getElem?_getD, Array.getD_eq_getD_getElem?]
theorem sb_agg {n : Nat} {l k : List V} {x y : Value} (hk : Tr G.S G.β (.agg l) x) (hu : Tr G.S G.β (.agg k) y) (h : l.length = k.length ∧ ∀ i, i < l.length → ∃ td, sameT td (l.getD i .undef) (k.getD i .undef) = some true) : Instr.sameBits (n + 1) y x = true := by
  obtain ⟨xs, rfl, hl, hxl⟩ := hk.agg_inv
  obtain ⟨ys, rfl, hm, hym⟩ := hu.agg_inv
  have := sb_list (n := n) l k xs.toList ys.toList h.1 (by simpa using hl) (by simpa using hm) h.2 (fun i hi => by rw [getD_toList]; exact hxl i hi) (fun i hi => by rw [getD_toList]; exact hym i hi)
  simp only [Instr.sameBits, Bool.and_eq_true, beq_iff_eq]
  exact ⟨by omega, this⟩
theorem sameBits_run {kt : TypeId} {k u : V} {x y : Value} (h : eqV P kt k u = some true) (hk : Tr G.S G.β k x) (hu : Tr G.S G.β u y) : Instr.sameBits 10000 y x = true := by
  unfold eqV at h
  split at h
  · split at h
    · split at h
      · exact sb_agg (n := 9999) hk hu (sameF_all _ _ _ _ h)
      · cases h
    · cases h
  · split at h
    · split at h
      · split at h
        · exact sb_agg (n := 9999) hk hu (sameA_all _ _ h)
        · cases h
      · cases h
    · cases h
  · exact sb_scalar h hk hu _
  · cases h
theorem putE_spec {kt : TypeId} {k v : V} : ∀ (es es1 : List (V × V)) (i : Nat), putE P kt k v es = some es1 → ∃ q, findI P kt k es i = some q ∧ (q = none → es1 = es ++ [(k, v)]) ∧ ∀ j u, q = some (j, u) → i ≤ j ∧ j - i < es.length ∧ es1 = es.set (j - i) (k, v) ∧ eqV P kt k (es.getD (j - i) default).1 = some true := by
  intro es
  induction es with
  | nil => intro es1 i h; simp only [putE, Option.some.injEq] at h; subst h; exact ⟨none, rfl, fun _ => rfl, fun j u e => by cases e⟩
  | cons e es ih =>
    intro es1 i h
    simp only [putE] at h
    split at h
    · rename_i he
      obtain rfl := Option.some.inj h
      refine ⟨some (i, e.2), by simp [findI, he], (fun e => by cases e), fun j u hj => ?_⟩
      cases hj
      simp only [Nat.sub_self]
      exact ⟨Nat.le_refl _, by simp, rfl, he⟩
    · rename_i he
      obtain ⟨es2, h1, rfl⟩ := Option.map_eq_some_iff.1 h
      obtain ⟨q, h2, h3, h4⟩ := ih es2 (i + 1) h1
      refine ⟨q, by simp [findI, he, h2], fun hq => by rw [h3 hq]; rfl, fun j u hj => ?_⟩
      obtain ⟨k1, k2, k3, k4⟩ := h4 j u hj
      have : j - i = (j - (i + 1)) + 1 := by omega
      rw [this]
      exact ⟨by omega, by simpa using k2, by rw [k3]; rfl, by simpa using k4⟩
    · cases h
theorem op_map {m k x : Operand} {t : TypeId} {s1 : St} (h : Rel G s a w) (hv : uMap P s t m k x = some s1) (op : Op) (hop : op = .mapUpdate t m k x ∨ op = .insert t m k x) : OpU P ⟨d, op, ty, pos, af, gd⟩ G s a w s1 := by
  unfold uMap at hv
  split at hv
  · rename_i kt e hu
    split at hv
    · rename_i kv s2 hkt
      split at hv
      · rename_i vv s3 hvt
        obtain ⟨G1, a1, a2, a3, a4, a5, a6⟩ := h.tree hkt
        obtain ⟨G2, b1, b2, b3, b4, b5, b6⟩ := a1.tree hvt
        split at hv
        · rename_i lv u hmv
          split at hv
          · rename_i es ho
            split at hv
            · rename_i hck
              obtain ⟨es1, hp, rfl⟩ := Option.map_eq_some_iff.1 hv
              have hk2 := b2.le.tr a3
              have hm := b1.see P t m
              rw [hmv] at hm
              obtain ⟨g, hg, hω, en, ck, hb, hl, hS, hpu, hT⟩ := b1.obj lv u _ ho
              obtain ⟨g', hg', hx⟩ := hm.mp_inv
              obtain rfl : g' = g := by rw [hg] at hg'; exact (Option.some.inj hg').symm
              obtain ⟨td, htd⟩ : ∃ td, P.underlying kt = some td := by
                cases hh : P.underlying kt with
                | none => unfold eqV at hck; rw [hh] at hck; cases hck
                | some td => exact ⟨td, rfl⟩
              have hck' := checkKey_run (P := P) hck hk2 false w
              have hent := entR_of hl hT
              obtain ⟨q, q1, q2, q3⟩ := putE_spec es es1 0 hp
              obtain ⟨q', f1, f2, f3⟩ := findKey_run (P := P) htd hk2 w es en.toList q hent q1
              have hst := a2.trans b2
              -- the object's new content
              have key : ∃ en1 ck1, (Instr.mapUpdate t (a.eval m) (a.eval k) (a.eval x)).run P w = .ok () { w with heap := w.heap.setIfInBounds g' (.map en1 ck1) } ∧ es1.length = en1.size ∧ (∀ z ∈ es1, z.1.flat.all pureC = true ∧ z.2.flat.all pureC = true) ∧
                  ∀ i, i < es1.length → Tr G2.S G2.β (es1.getD i default).1 (en1.getD i default).key ∧ Tr G2.S G2.β (es1.getD i default).2 (en1.getD i default).val := by
                cases q with
                | none =>
                  have hq' := f2 rfl
                  subst hq'
                  have he1 := q2 rfl
                  subst he1
                  refine ⟨en.push { key := a.eval k, val := a.eval x, born := ck }, ck + 1, ?_, by simp [hl], fun z hz => ?_, fun i hi => ?_⟩
                  · simp [Instr.mapUpdate, run_underlying hu, hx, getObj, setObj, Sem.run, hb, hck', f1]
                  · rcases List.mem_append.1 hz with hz | hz
                    · exact hpu z hz
                    · rw [List.mem_singleton.1 hz]; exact ⟨a4, b4⟩
                  · by_cases hi' : i < es.length
                    · have e1 : (es ++ [(kv, vv)]).getD i default = es.getD i default := by simp [List.getD_eq_getElem?_getD, List.getElem?_append_left hi']
                      have e2 : (en.push { key := a.eval k, val := a.eval x, born := ck }).getD i default = en.getD i default := by
                        simp only [Array.getD_eq_getD_getElem?, Array.getElem?_push]
                        rw [if_neg (by omega)]
                      rw [e1, e2]
                      exact hT i hi'
                    · have hi2 : i = es.length := by simp at hi; omega
                      subst hi2
                      have e1 : (es ++ [(kv, vv)]).getD es.length default = (kv, vv) := by simp [List.getD_eq_getElem?_getD]
                      have e2 : (en.push { key := a.eval k, val := a.eval x, born := ck }).getD es.length default = { key := a.eval k, val := a.eval x, born := ck } := by
                        simp only [Array.getD_eq_getD_getElem?, Array.getElem?_push, hl, if_true, Option.getD_some]
                      rw [e1, e2]
                      exact ⟨hk2, b3⟩
                | some jv =>
                  obtain ⟨j, uv⟩ := jv
                  obtain ⟨me, m1, rfl, m3⟩ := f3 j uv rfl
                  obtain ⟨_, hj, rfl, hq⟩ := q3 j uv rfl
                  simp only [Nat.sub_zero] at hj hq
                  have hjn : j < en.size := by omega
                  have hold := (hT j hj).1
                  have hme : en.getD j default = me := by rw [Array.getD_eq_getD_getElem?, ← Array.getElem?_toList, m1]; rfl
                  have hme2 : en[j]? = some me := by rw [← Array.getElem?_toList]; exact m1
                  rw [hme] at hold
                  have hsb := sameBits_run (P := P) hq hk2 hold
                  refine ⟨en.modify j fun e => { e with key := a.eval k, val := a.eval x }, ck, ?_, by simp [hl], fun z hz => ?_, fun i hi => ?_⟩
                  · simp [Instr.mapUpdate, run_underlying hu, hx, getObj, setObj, Sem.run, hb, hck', f1, Instr.keyThatStays, hme2, hsb]
                  · rcases List.mem_or_eq_of_mem_set hz with hz | rfl
                    · exact hpu z hz
                    · exact ⟨a4, b4⟩
                  · rw [List.length_set] at hi
                    simp only [Nat.sub_zero]
                    by_cases hij : i = j
                    · subst hij
                      have e1 : (es.set i (kv, vv)).getD i default = (kv, vv) := by simp [List.getD_eq_getElem?_getD, hi]
                      have e2 : (en.modify i fun e => { e with key := a.eval k, val := a.eval x }).getD i default = { me with key := a.eval k, val := a.eval x } := by
                        simp only [Array.getD_eq_getD_getElem?, Array.getElem?_modify, if_true, hme2, Option.map_some, Option.getD_some]
                      rw [e1, e2]
                      exact ⟨hk2, b3⟩
                    · have e1 : (es.set j (kv, vv)).getD i default = es.getD i default := by simp [List.getD_eq_getElem?_getD, List.getElem?_set, Ne.symm hij]
                      have e2 : (en.modify j fun e => { e with key := a.eval k, val := a.eval x }).getD i default = en.getD i default := by
                        simp only [Array.getD_eq_getD_getElem?, Array.getElem?_modify, if_neg (Ne.symm hij)]
                      rw [e1, e2]
                      exact hT i hi
              obtain ⟨en1, ck1, k1, k2, k3, k4⟩ := key
              have hlt : g' < w.heap.size := b1.lim _ _ hω
              generalize hw' : ({ w with heap := w.heap.setIfInBounds g' (.map en1 ck1) } : World) = w' at k1
              have hoth : ∀ k, k ≠ g' → w'.heap[k]? = w.heap[k]? := fun k hk => by rw [← hw']; simp [Array.getElem?_setIfInBounds, Ne.symm hk]
              have hws : w'.heap.size = w.heap.size := by rw [← hw']; simp
              have hnew : w'.heap[g']? = some (.map en1 ck1) := by rw [← hw']; simp [Array.getElem?_setIfInBounds, hlt]
              refine ⟨w', G2, ?_, b1.setOb ho hg hω (Le.refl _) rfl (fun k p hk hp hr hpk => ⟨hoth k hk, fun _ => rfl, hpk⟩) (fun k j c hc => ?_) (fun k p hp => by rw [hws]; exact b1.lim k p hp) hω ⟨en1, ck1, hnew, k2, hS, k3, k4⟩, hst.fr.trans ⟨by rw [← hw'], by rw [← hw'], by rw [← hw'], by rw [hws]; exact Nat.le_refl _, fun k hk hm => ⟨hoth k (by rintro rfl; exact hm _ hω trivial), rfl, fun _ => rfl⟩, fun _ _ _ e => e, fun _ _ _ => rfl⟩⟩
              · rcases hop with rfl | rfl <;> simp only [execOp, Sem.run_bind, k1, Result.andThen_ok, Sem.run_pure]
              · have hkg : k ≠ g' := by rintro rfl; rw [hS] at hc; cases hc
                have := b1.imm _ _ _ hc
                simp only [World.cell?, hoth k hkg]
                exact this
            · cases hv
          · cases hv
        · cases hv
      · cases hv
    · cases hv
  · cases hv
end Go.Ev
namespace Go.Ev
open Go
set_option linter.unusedVariables false
set_option linter.unusedSimpArgs false
variable {P : Program} {G : Gh} {s : St} {a : Act} {w : World} {o : Oper}
variable {d : Option Nat} {ty : TypeId} {pos : String} {af : Array Edge} {gd : Option (Nat × Bool)}

theorem OwnU.of_nil {p : Pl} {sz : Nat} {x : Value} (h : OwnC G w p (.slc true sz []) x) : OwnU G w p sz [] x := by
  obtain ⟨_, a, cap, rfl, hc⟩ := (h : Tr G.S G.β (.slc false sz []) x ∧ ∃ a cap, x = .slice a ([] : List V).length cap ∧ (cap = ([] : List V).length ∨
      ∃ g cs ty, a = some ⟨g, 0, none⟩ ∧ G.ω g = some p ∧ w.heap[g]? = some (.cells cs ty (0, 0)) ∧ cs.size = cap * sz ∧ ∀ j, ([] : List V).length * sz ≤ j → G.S g j = none))
  refine ⟨a, cap, rfl, ?_⟩
  rcases hc with hc | ⟨g, cs, ty, h1, h2, h3, h4, h5⟩
  · exact .inl ⟨rfl, hc⟩
  · exact .inr ⟨g, cs, ty, h1, h2, h3, h4, Nat.zero_le _, (fun x hx => by cases hx), (fun i j hi => absurd hi (Nat.not_lt_zero _)), fun j => h5 j (by simp)⟩
theorem growU_core (h : Rel G s a w) {t tx e : TypeId} {sz : Nat} {l m : List V} {X Y : Value} {news : List Value} {dx : TypeDesc} (hgr : growB P t = true) (hse : sz = elemSz P t) (he : P.underlying t = some (.slice e)) (hx : P.underlying tx = some dx) (hk : ∀ k, dx ≠ .int k)
    (hX : OwnU G w (.rs 0 0) sz l X) (hlen : (Builtin.lenOf Y).run P w = .ok m.length w) (hf : (Builtin.firstCells sz m.length Y).run P w = .ok news.toArray w) (hf' : (Builtin.firstCells sz m.length Y).run P w.drew = .ok news.toArray w.drew)
    (hL : Laid G sz m news.toArray) (hn : news.length = m.length * sz) (h1 : ∀ u ∈ news, u.oneCell' = true) (hb : (l.length + m.length) * P.bytesOf e ≤ 140737488355328) :
    ∃ x w' G', (Builtin.append_ #[t, tx] ty #[X, Y]).run P w = .ok x w' ∧ Rel G' s a w' ∧ OwnU G' w' (.rs 0 0) sz (l ++ m) x ∧ Fr s.lv G w G' w' := by
  have hee : elemOf P t = e := by simp [elemOf, he]
  unfold growB at hgr
  simp only [Bool.and_eq_true, bne_iff_ne, ne_eq] at hgr
  obtain ⟨⟨⟨_, hnz⟩, hbz⟩, hzz⟩ := hgr
  have hszz : sz = szOf P e := by rw [hse]; simp [elemSz, hee]
  have hnz' : szOf P e ≠ 0 := by rw [← hszz, hse]; exact hnz
  obtain ⟨i, d, g1, g2, g3, g4⟩ := szOf_ne hnz'
  rw [hee] at hbz hzz
  have hbe : P.bytesOf e = i.bytes := by simp [Program.bytesOf, g1]
  cases hzo : zero P e with
  | none => rw [hzo] at hzz; cases hzz
  | some z =>
    rw [hzo] at hzz
    have hzl : z.length = szOf P e := by have : z.length = elemSz P t := by simpa using hzz
                                         rw [this, ← hse, hszz]
    obtain ⟨zv, k1, k2, k3, _⟩ := zero_spec hzo
    have hzi : i.zero = some zv := by
      have := k1 default
      simp only [zeroValue, Sem.run_bind, typeInfo, run_program, Result.andThen_ok, g1, Sem.run_pure] at this
      cases hh : i.zero with
      | none => simp [hh] at this
      | some y => simp [hh] at this; rw [this]
    have hpos : 0 < sz := by omega
    have hsi : i.size = sz := by omega
    have hlm : (l ++ m).length = l.length + m.length := by simp
    obtain ⟨A, cap, rfl, hown⟩ := hX
    -- what stands there already
    obtain ⟨olds, o2, o3, o4, o5⟩ : ∃ olds : List Value, (Builtin.firstCells sz l.length (.slice A l.length cap)).run P w = .ok olds.toArray w ∧ (Builtin.firstCells sz l.length (.slice A l.length cap)).run P w.drew = .ok olds.toArray w.drew ∧ Laid G sz l olds.toArray ∧ olds.length = l.length * sz := by
      rcases hown with ⟨rfl, rfl⟩ | ⟨g, cs, cty, rfl, hω, hg, hcs, hlc, hs, hT, hS⟩
      · exact ⟨[], by cases A <;> first | rfl | simp [Builtin.firstCells, loadCells, loadCellsFrom], by cases A <;> first | rfl | simp [Builtin.firstCells, loadCells, loadCellsFrom], ⟨by simp, (fun x hx => by cases hx), fun i j hi => absurd hi (Nat.not_lt_zero _)⟩, by simp⟩
      · have hle : l.length * sz ≤ cs.size := by rw [hcs]; exact Nat.mul_le_mul_right _ hlc
        have hlt : (cs.toList.take (l.length * sz)).length = l.length * sz := by simp; omega
        have hcl : ∀ (w : World), w.heap[g]? = some (.cells cs cty (0, 0)) → (loadCells ⟨g, 0, none⟩ (l.length * sz)).run P w = .ok (cs.toList.take (l.length * sz)).toArray w := by
          intro w hg
          have := run_loadCells_list (P := P) (w := w) ⟨g, 0, none⟩ (cs.toList.take (l.length * sz)) (fun j v hj => by
            rw [add_eq]
            simp only [World.cell?, hg, Nat.zero_add]
            rw [List.getElem?_take] at hj
            split at hj
            · simpa using hj
            · cases hj)
          rw [hlt] at this
          exact this
        refine ⟨cs.toList.take (l.length * sz), hcl w hg, hcl w.drew hg, ⟨by rw [List.size_toArray, hlt]; exact Nat.le_refl _, hs, fun p q hp hq => ?_⟩, hlt⟩
        have h5 := cell_lt hp hq
        have : (cs.toList.take (l.length * sz)).toArray.getD (p * sz + q) Go.undef = cs.getD (p * sz + q) Go.undef := by
          simp only [Array.getD_eq_getD_getElem?, List.getElem?_toArray, List.getElem?_take, if_pos h5]
          simp
        rw [this]
        exact hT p q hp hq
    by_cases hroom : l.length + m.length ≤ cap
    · have hr := app_room (P := P) (w := w) (t := t) (tx := tx) (tyy := ty) (A := A) (n := l.length) (cap := cap) (Y := Y) he g1 hx hk hlen (by rw [hsi]; exact hf) hroom
      rcases hown with ⟨rfl, rfl⟩ | ⟨g, cs, cty, rfl, hω, hg, hcs, hlc, hs, hT, hS⟩
      · have hm0 : m = [] := List.eq_nil_of_length_eq_zero (by simpa using hroom)
        subst hm0
        have hn0 : news = [] := List.eq_nil_of_length_eq_zero (by simpa using hn)
        subst hn0
        refine ⟨.slice A 0 0, w, G, ?_, h, ⟨A, 0, rfl, .inl ⟨rfl, rfl⟩⟩, Fr.refl _ _ _⟩
        rw [hr]
        cases A <;> simp [storeCells]
      · have hfit : l.length * sz + news.length ≤ cs.size := by rw [hn, hcs, ← Nat.add_mul]; exact Nat.mul_le_mul_right _ hroom
        have hst := run_storeCells_at P g (l.length * sz) cty news 0 cs w hg (by simpa using hfit) h1
        simp only [Nat.add_zero] at hst
        have hnew : (w.setRow g (cs.toList.take (l.length * sz) ++ news ++ cs.toList.drop (l.length * sz + news.length)).toArray).heap[g]? = some (.cells (cs.toList.take (l.length * sz) ++ news ++ cs.toList.drop (l.length * sz + news.length)).toArray cty (0, 0)) := setRow_heap w g cs _ cty _ hg
        generalize hw' : w.setRow g (cs.toList.take (l.length * sz) ++ news ++ cs.toList.drop (l.length * sz + news.length)).toArray = w' at hst hnew
        have hoth : ∀ k, k ≠ g → w'.heap[k]? = w.heap[k]? := fun k hk => by rw [← hw']; exact setRow_other w g k _ hk
        have hws : w'.heap.size = w.heap.size := by rw [← hw']; simp
        have hlz : l.length * sz ≤ cs.size := by omega
        have holds : olds = cs.toList.take (l.length * sz) := by
          have hcl := run_loadCells_list (P := P) (w := w) ⟨g, 0, none⟩ (cs.toList.take (l.length * sz)) (fun j v hj => by
            rw [add_eq]
            simp only [World.cell?, hg, Nat.zero_add]
            rw [List.getElem?_take] at hj
            split at hj
            · simpa using hj
            · cases hj)
          have hlt : (cs.toList.take (l.length * sz)).length = l.length * sz := by simp; omega
          rw [hlt] at hcl
          have e3 : (loadCells ⟨g, 0, none⟩ (l.length * sz)).run P w = .ok olds.toArray w := o2
          rw [hcl] at e3
          have := (Result.ok.inj e3).1
          simpa using this.symm
        have hLn := Laid.append (rest := cs.toList.drop (l.length * sz + news.length)) o4 hL o5 hn
        rw [holds] at hLn
        refine ⟨.slice (some ⟨g, 0, none⟩) (l.length + m.length) cap, w', G, ?_, h.grow (Le.refl _) rfl (fun k p hp hpk => ?_) (fun k j c hc => ?_) (fun k p hp => by rw [hws]; exact h.lim k p hp), ?_, ⟨by rw [← hw']; rfl, by rw [← hw']; rfl, by rw [← hw']; rfl, by rw [hws]; exact Nat.le_refl _, fun k hk hm => ?_, fun _ _ _ e => e, fun _ _ _ => rfl⟩⟩
        · rw [hr]
          show ((storeCells ((⟨g, 0, none⟩ : Addr).add (l.length * i.size)) news).run P w).andThen _ = _
          rw [hsi, add_eq, Nat.zero_add, hst]
          rfl
        · have hkg : k ≠ g := by rintro rfl; rw [hω] at hpk; cases hpk; exact hp 0 0 rfl
          exact ⟨hoth k hkg, fun _ => rfl, hpk⟩
        · have hkg : k ≠ g := by rintro rfl; rw [hS j] at hc; cases hc
          have := h.imm _ _ _ hc
          simp only [World.cell?, hoth k hkg]
          exact this
        · refine ⟨some ⟨g, 0, none⟩, cap, by rw [hlm], .inr ⟨g, _, cty, rfl, hω, hnew, ?_, by omega, hLn.2.1, hLn.2.2, hS⟩⟩
          simp only [List.size_toArray, List.length_append, List.length_take, List.length_drop, Array.length_toList]
          omega
        · have hkg : k ≠ g := by rintro rfl; exact hm _ hω trivial
          exact ⟨hoth k hkg, rfl, fun _ => rfl⟩
    · have hcap0 : cap < l.length + m.length := by omega
      have hr := app_grow (P := P) (w := w) (t := t) (tx := tx) (tyy := ty) (A := A) (n := l.length) (cap := cap) (Y := Y) (news := news) (olds := olds) he g1 hzi hx hk hlen (by rw [hsi]; exact hf') (by rw [hsi]; exact o3) (by omega) (by omega) (by rw [← hbe]; exact hb)
      have hge := grownCap_ge w (l.length + m.length) cap e
      have hzc : (Builtin.zeroCells zv.cells (grownCap w (l.length + m.length) cap e - (l.length + m.length))).size = (grownCap w (l.length + m.length) cap e - (l.length + m.length)) * sz := by
        rw [size_zeroCells, ← k2, hzl, hszz]
      have hLn := Laid.append (rest := (Builtin.zeroCells zv.cells (grownCap w (l.length + m.length) cap e - (l.length + m.length))).toList) o4 hL o5 hn
      have harr : olds.toArray ++ news.toArray ++ Builtin.zeroCells zv.cells (grownCap w (l.length + m.length) cap e - (l.length + m.length)) = (olds ++ news ++ (Builtin.zeroCells zv.cells (grownCap w (l.length + m.length) cap e - (l.length + m.length))).toList).toArray := by
        apply Array.ext'
        simp
      rw [harr] at hr
      obtain ⟨q1, q2, q3, _⟩ := h.drew.allocRow 0 (olds ++ news ++ (Builtin.zeroCells zv.cells (grownCap w (l.length + m.length) cap e - (l.length + m.length))).toList).toArray e (.rs 0 0)
      have hLn' := hLn.mono q2
      refine ⟨_, _, _, hr, q1, ⟨some ⟨w.heap.size, 0, none⟩, grownCap w (l.length + m.length) cap e, by rw [hlm], .inr ⟨w.heap.size, _, e, rfl, ?_, heap_alloc_new _ _, ?_, by rw [hlm]; exact hge, hLn'.2.1, hLn'.2.2, fun j => ?_⟩⟩, q3.drew⟩
      · show (if w.drew.heap.size = w.drew.heap.size then _ else _) = _
        rw [if_pos rfl]
      · have hz2 : (Builtin.zeroCells zv.cells (grownCap w (l.length + m.length) cap e - (l.length + m.length))).toList.length = (grownCap w (l.length + m.length) cap e - (l.length + m.length)) * sz := by rw [Array.length_toList]; exact hzc
        rw [List.size_toArray, List.length_append, List.length_append, hz2, o5, hn, ← Nat.add_mul, ← Nat.add_mul]
        congr 1
        omega
      · show (if w.drew.heap.size = w.drew.heap.size then (if j < 0 then _ else _) else _) = _
        rw [if_pos rfl, if_neg (by omega)]
theorem appendV_slc {t t' : TypeId} {sz : Nat} {l : List V} {y r : V} (h : appendV P t t' (.slc true sz l) y = some r) : growB P t = true ∧ sz = elemSz P t ∧ ∃ m, r = .slc true sz (l ++ m) ∧ (l.length + m.length) * P.bytesOf (elemOf P t) ≤ 140737488355328 ∧
    ((∃ own, y = .slc own sz m ∧ isSl P t' = true) ∨ ∃ b, y = .str b ∧ isStr P t' = true ∧ sz = 1 ∧ m = bytesV b) := by
  unfold appendV at h
  dsimp only at h
  split at h
  · rename_i hgr
    refine ⟨hgr.1, hgr.2, ?_⟩
    split at h
    · split at h
      · rename_i hc
        split at h
        · rename_i hb
          obtain ⟨h1, rfl⟩ := hc
          exact ⟨_, (Option.some.inj h).symm, hb, .inl ⟨_, rfl, h1⟩⟩
        · cases h
      · cases h
    · split at h
      · rename_i hc
        split at h
        · rename_i hb
          obtain ⟨h1, rfl⟩ := hc
          exact ⟨_, (Option.some.inj h).symm, by simpa [bytesV] using hb, .inr ⟨_, rfl, h1, rfl, rfl⟩⟩
        · cases h
      · cases h
    · cases h
  · cases h
theorem op_appendU {x y : Operand} {t t' : TypeId} {u : Bool} {v : V} (h : Rel G s a w) (hv : appendU P t t' u (s.all P t x) (s.see P t' y) = some v) :
    OpOk P ⟨d, .call { callee := .builtin .append, args := #[x, y], argTypes := #[t, t'] }, ty, pos, af, gd⟩ G s a w v (s.drop x) := by
  obtain ⟨G1, h1, h2, h3, _, h5, h6⟩ := h.all P t x
  have hy := h.see P t' y
  have h0 : ∀ own sz l, s.see P t' y = .slc own sz l → own = false := fun own sz l e => see_slc e
  have hlv : (s.drop x).lv = s.lv := by cases x <;> rfl
  have core : ∀ {sz l}, OwnU G1 w (.rs 0 0) sz l (a.eval x) → ((appendV P t t' (.slc true sz l) (s.see P t' y)).bind fun r => match r with
    | .slc true sz l => some (V.uq sz l)
    | _ => none) = some v → OpOk P ⟨d, .call { callee := .builtin .append, args := #[x, y], argTypes := #[t, t'] }, ty, pos, af, gd⟩ G s a w v (s.drop x) := by
    intro sz l hX hb
    obtain ⟨r, hr, hrv⟩ := Option.bind_eq_some_iff.1 hb
    obtain ⟨hgr, hse, m, rfl, hbd, hyy⟩ := appendV_slc hr
    obtain rfl := Option.some.inj hrv
    obtain ⟨e, he, hel⟩ := isSl_spec (by simp only [growB, Bool.and_eq_true] at hgr; exact hgr.1.1.1)
    rw [hel] at hbd
    rw [← h5, ← h6] at hy
    have fin : ∀ {x' : Value} {w' : World} {G' : Gh}, (Builtin.append_ #[t, t'] ty #[a.eval x, a.eval y]).run P w = .ok x' w' → Rel G' (s.drop x) a w' → OwnU G' w' (.rs 0 0) sz (l ++ m) x' → Fr (s.drop x).lv G1 w G' w' → OpOk P ⟨d, .call { callee := .builtin .append, args := #[x, y], argTypes := #[t, t'] }, ty, pos, af, gd⟩ G s a w (.uq sz (l ++ m)) (s.drop x) := by
      intro x' w' G' e1 e2 e3 e4
      refine ⟨x', w', G', run_builtin ?_, e2, e3, h3.trans (by rw [hlv] at e4; exact e4)⟩
      simp only [builtin, List.map_toArray, List.map_cons, List.map_nil, Sem.run_bind, e1, Result.andThen_ok, Sem.run_pure]
    rcases hyy with ⟨own, hyv, hsl⟩ | ⟨b, hyv, hst, rfl, rfl⟩
    · obtain rfl := h0 _ _ _ hyv
      rw [hyv] at hy
      obtain ⟨e', he', _⟩ := isSl_spec hsl
      have hpos : 0 < sz := by
        simp only [growB, Bool.and_eq_true, bne_iff_ne] at hgr
        have := hgr.1.1.2
        omega
      obtain ⟨cs, c1, c2, c3, c4, c5, c6⟩ := src_slc (P := P) h1 hpos hy
      obtain ⟨x', w', G', e1, e2, e3, e4⟩ := growU_core (ty := ty) h1 hgr hse he he' (fun k e => by cases e) hX c1 c2 c3 c4 c5 c6 hbd
      exact fin e1 e2 e3 e4
    · rw [hyv] at hy
      have he' := isStr_spec hst
      obtain ⟨cs, c1, c2, c3, c4, c5, c5', c6⟩ := src_str (P := P) (G := G1) (w := w) (sz := 1) b
      rw [hy.str_inv] at fin
      rw [← c5'] at c1 c2 c3
      obtain ⟨x', w', G', e1, e2, e3, e4⟩ := growU_core (ty := ty) h1 hgr hse he he' (fun k e => by cases e) hX c1 c2 c3 c4 c5 c6 hbd
      exact fin e1 e2 e3 e4
  unfold appendU at hv
  split at hv
  · rename_i sz l hx
    rw [hx] at h2
    exact core h2 hv
  · split at hv
    · split at hv
      · rename_i sz hx
        rw [hx] at h2
        exact core (OwnU.of_nil h2) hv
      · cases hv
    · exact op_append h hv
end Go.Ev
namespace Go.Ev
open Go
set_option linter.unusedVariables false
set_option linter.unusedSimpArgs false
variable {P : Program} {G : Gh} {s : St} {a : Act} {w : World} {o : Oper}
variable {d : Option Nat} {ty : TypeId} {pos : String} {af : Array Edge} {gd : Option (Nat × Bool)}

/-! ### settled -/
theorem settle_one (himm : ∀ g j c, G.S g j = some c → w.cell? ⟨g, j, none⟩ = some c) {p : Pl} {sz : Nat} {l : List V} {x : Value} (h : OwnU G w p sz l x) :
    ∃ G', Le G G' ∧ G'.β = G.β ∧ G'.ω = G.ω ∧ (∀ k, G.ω k ≠ some p → ∀ j, G'.S k j = G.S k j) ∧ (∀ g j c, G'.S g j = some c → w.cell? ⟨g, j, none⟩ = some c) ∧ OwnC G' w p (.slc true sz l) x := by
  obtain ⟨a, cap, rfl, ⟨rfl, rfl⟩ | ⟨g, cs, cty, rfl, hω, hg, hcs, hlc, hs, hT, hS⟩⟩ := h
  · exact ⟨G, Le.refl _, rfl, rfl, fun _ _ _ => rfl, himm, Tr.slc0 _ _ _, a, 0, rfl, .inl rfl⟩
  · have hle : Le G (G.ice g (l.length * sz) cs) := ⟨fun k j c hc => by
      show (if k = g ∧ j < _ then _ else _) = _
      rw [if_neg (by rintro ⟨rfl, _⟩; rw [hS j] at hc; cases hc)]; exact hc, fun _ _ _ e => e⟩
    have hsz : l.length * sz ≤ cs.size := by rw [hcs]; exact Nat.mul_le_mul_right _ hlc
    refine ⟨G.ice g (l.length * sz) cs, hle, rfl, rfl, fun k hk j => ?_, fun k j c hc => ?_, ?_, some ⟨g, 0, none⟩, cap, rfl, .inr ⟨g, cs, cty, rfl, hω, hg, hcs, fun j hj => ?_⟩⟩
    · show (if k = g ∧ j < _ then _ else _) = _
      rw [if_neg (by rintro ⟨rfl, _⟩; exact hk hω)]
    · have hc' : (if k = g ∧ j < l.length * sz then cs[j]? else G.S k j) = some c := hc
      split at hc'
      · rename_i hk; obtain ⟨rfl, _⟩ := hk; simp only [World.cell?, hg]; exact hc'
      · exact himm _ _ _ hc'
    · refine Tr.slc sz l g 0 cap (fun i j => cs.getD (i * sz + j) Go.undef) hlc hs (fun i j hi hj => ?_) (fun i j hi hj => hle.tr (hT i j hi hj))
      have h5 := cell_lt hi hj
      show (if g = g ∧ 0 + i * sz + j < l.length * sz then cs[0 + i * sz + j]? else _) = _
      rw [if_pos ⟨rfl, by omega⟩, Nat.zero_add, Array.getElem?_eq_getElem (by omega), getD_array_of (by omega)]
    · show (if g = g ∧ j < l.length * sz then _ else _) = _
      rw [if_neg (by omega)]
      exact hS j
theorem getD_setC (l : List V) (i : Nat) : (l.map V.setC).getD i .undef = (l.getD i .undef).setC := by
  simp only [List.getD_eq_getElem?_getD, List.getElem?_map]
  cases l[i]? <;> rfl
theorem OwnC.setC {p : Pl} {v : V} {x : Value} (himm : ∀ g j c, G.S g j = some c → w.cell? ⟨g, j, none⟩ = some c) (h : OwnC G w p v x) :
    ∃ G', Le G G' ∧ G'.β = G.β ∧ G'.ω = G.ω ∧ (∀ k, G.ω k ≠ some p → ∀ j, G'.S k j = G.S k j) ∧ (∀ g j c, G'.S g j = some c → w.cell? ⟨g, j, none⟩ = some c) ∧ OwnC G' w p v.setC x := by
  by_cases hq : ∃ sz l, v = .uq sz l
  · obtain ⟨sz, l, rfl⟩ := hq
    exact settle_one himm h
  · have : v.setC = v := by cases v <;> first | rfl | exact absurd ⟨_, _, rfl⟩ hq
    rw [this]
    exact ⟨G, Le.refl _, rfl, rfl, fun _ _ _ => rfl, himm, h⟩
theorem settle_cells (himm : ∀ g j c, G.S g j = some c → w.cell? ⟨g, j, none⟩ = some c) {l : List V} {X : Nat → Value} (h : ∀ j, j < l.length → OwnC G w (.rs 0 j) (l.getD j .undef) (X j)) :
    ∀ n, n ≤ l.length → ∃ G', Le G G' ∧ G'.β = G.β ∧ G'.ω = G.ω ∧ (∀ k, (∀ j, G.ω k ≠ some (.rs 0 j)) → ∀ j, G'.S k j = G.S k j) ∧ (∀ g j c, G'.S g j = some c → w.cell? ⟨g, j, none⟩ = some c) ∧
      ∀ j, j < l.length → OwnC G' w (.rs 0 j) (if j < n then (l.getD j .undef).setC else l.getD j .undef) (X j) := by
  intro n
  induction n with
  | zero => intro _; exact ⟨G, Le.refl _, rfl, rfl, fun _ _ _ => rfl, himm, fun j hj => by rw [if_neg (by omega)]; exact h j hj⟩
  | succ n ih =>
    intro hn
    obtain ⟨G1, a1, a2, a3, a4, a5, a6⟩ := ih (by omega)
    have hc := a6 n (by omega)
    rw [if_neg (by omega)] at hc
    obtain ⟨G2, b1, b2, b3, b4, b5, b6⟩ := hc.setC a5
    refine ⟨G2, ⟨fun g j c e => b1.S _ _ _ (a1.S _ _ _ e), fun l t g e => b1.β _ _ _ (a1.β _ _ _ e)⟩, b2.trans a2, b3.trans a3, fun k hk j => ?_, b5, fun j hj => ?_⟩
    · rw [b4 k (by rw [a3]; exact hk n) j, a4 k hk j]
    · by_cases hj2 : j = n
      · subst hj2; rw [if_pos (by omega)]; exact b6
      · have e1 : (if j < n + 1 then (l.getD j .undef).setC else l.getD j .undef) = (if j < n then (l.getD j .undef).setC else l.getD j .undef) := by
          by_cases h1 : j < n
          · rw [if_pos h1, if_pos (by omega)]
          · rw [if_neg h1, if_neg (by omega)]
        rw [e1]
        refine (a6 j hj).mono b1 fun k hk => ⟨rfl, fun i => b4 k ?_ i, by rw [b3]; exact hk⟩
        intro e
        rw [hk] at e
        exact hj2 (by injection (Option.some.inj e))
theorem Rel.settle (h : Rel G s a w) {v : V} {x : Value} (hv : OwnS G w Pl.rs v x) : ∃ G', Rel G' s a w ∧ OwnS G' w Pl.rs v.settle x ∧ Fr s.lv G w G' w := by
  have mk : ∀ G', Le G G' → G'.β = G.β → G'.ω = G.ω → (∀ k, (∀ j, G.ω k ≠ some (.rs 0 j)) → ∀ j, G'.S k j = G.S k j) → (∀ g j c, G'.S g j = some c → w.cell? ⟨g, j, none⟩ = some c) → Rel G' s a w ∧ Fr s.lv G w G' w := by
    intro G' h1 h2 h3 h4 h5
    refine ⟨h.grow h1 h2 (fun g p hp hg => ⟨rfl, fun j => h4 g (fun i e => ?_) j, by rw [h3]; exact hg⟩) h5 (fun g p hg => h.lim g p (by rw [h3] at hg; exact hg)), rfl, rfl, rfl, Nat.le_refl _, fun g hg hm => ⟨rfl, by rw [h3], fun j => h4 g (fun i e => hm _ e trivial) j⟩, h1.S, fun _ _ _ => by rw [h2]⟩
    rw [hg] at e
    exact hp _ _ (Option.some.inj e)
  by_cases ha : ∃ l, v = .agg l
  · obtain ⟨l, rfl⟩ := ha
    obtain ⟨cs, rfl, hl, hc⟩ := (hv : ∃ cs, x = .agg cs ∧ l.length = cs.size ∧ ∀ j, j < l.length → OwnC G w (.rs 0 j) (l.getD j .undef) (cs.getD j undef))
    obtain ⟨G', b1, b2, b3, b4, b5, b6⟩ := settle_cells (X := fun j => cs.getD j undef) h.imm hc l.length (Nat.le_refl _)
    obtain ⟨m1, m2⟩ := mk G' b1 b2 b3 b4 b5
    refine ⟨G', m1, ⟨cs, rfl, by simpa using hl, fun j hj => ?_⟩, m2⟩
    have hj' : j < l.length := by simpa using hj
    have := b6 j hj'
    rw [if_pos hj'] at this
    rw [getD_setC]
    exact this
  by_cases hq : ∃ sz l, v = .uq sz l
  · obtain ⟨sz, l, rfl⟩ := hq
    obtain ⟨G', b1, b2, b3, b4, b5, b6⟩ := settle_one h.imm (hv : OwnU G w (.rs 0 0) sz l x)
    obtain ⟨m1, m2⟩ := mk G' b1 b2 b3 (fun k hk j => b4 k (hk 0) j) b5
    exact ⟨G', m1, b6, m2⟩
  · have : v.settle = v := by cases v <;> first | rfl | exact absurd ⟨_, rfl⟩ ha | exact absurd ⟨_, _, rfl⟩ hq
    rw [this]
    exact ⟨G, h, hv, Fr.refl _ _ _⟩
theorem Rel.setl (h : Rel G s a w) (b : Bool) {v : V} {x : Value} (hv : OwnS G w Pl.rs v x) : ∃ G', Rel G' s a w ∧ OwnS G' w Pl.rs (setl b v) x ∧ Fr s.lv G w G' w := by
  cases b
  · exact ⟨G, h, hv, Fr.refl _ _ _⟩
  · exact h.settle hv

/-! ### made objects -/
structure Grew (s s1 : St) : Prop where
  lv : s1.lv = s.lv
  t : s1.t = s.t
  n : s1.n = s.n
  o : s1.o = s.o
  f : s1.f = s.f
  r : s1.r = s.r
  ob : ∀ l u ob, s.ob l u = some ob → s1.ob l u = some ob
theorem Grew.refl (s : St) : Grew s s := ⟨rfl, rfl, rfl, rfl, rfl, rfl, fun _ _ _ h => h⟩
theorem Grew.trans {s s1 s2 : St} (h : Grew s s1) (k : Grew s1 s2) : Grew s s2 := ⟨k.lv.trans h.lv, k.t.trans h.t, k.n.trans h.n, k.o.trans h.o, k.f.trans h.f, k.r.trans h.r, fun l u ob e => k.ob _ _ _ (h.ob _ _ _ e)⟩
theorem Rel.uMk (h : Rel G s a w) {c j : Nat} {sz : Nat} {l : List V} {X : Value} {dd : Nat} (hX : OwnU G w (.rs c j) sz l X) (hne : l ≠ []) (hd : s.b dd = none) :
    ∃ G', Rel G' { s with b := upd s.b dd (some (.arr false sz l)) } a w ∧ Tr G'.S G'.β (.aref s.lv dd l.length) X ∧ Fr s.lv G w G' w ∧ Le G G' ∧ (∀ k q, q ≠ .rs c j → G.ω k = some q → G'.ω k = some q) ∧ G'.S = G.S := by
  obtain ⟨a0, cap, rfl, ⟨hn, _⟩ | ⟨g, cs, cty, rfl, hω, hg, hcs, hlc, hs, hT, hS⟩⟩ := hX
  · exact absurd hn hne
  have hβ := β_none h (lv := s.lv) (t := dd) (by rw [ob_b]; exact hd)
  have hle : Le G (G.obj s.lv dd g) := ⟨fun _ _ _ hc => hc, fun l u g' hg' => by
    show (if l = s.lv ∧ u = dd then _ else _) = _
    rw [if_neg (by rintro ⟨rfl, rfl⟩; rw [hβ] at hg'; cases hg')]; exact hg'⟩
  have hso : ∀ k q, q ≠ .rs c j → G.ω k = some q → (G.obj s.lv dd g).ω k = some q := by
    intro k q hq hk
    show (if k = g then _ else _) = _
    rw [if_neg (by rintro rfl; rw [hω] at hk; exact hq (Option.some.inj hk).symm)]; exact hk
  refine ⟨G.obj s.lv dd g, ⟨h.size, h.defers, fun t => (h.slot t).mono hle fun c' j' k hk => ⟨rfl, fun _ => rfl, hso k _ (fun e => by cases e) hk⟩, fun lv t ob' hob => ?_, fun lv t g' hg' => ?_, h.imm, fun g' q hq => ?_⟩, ?_, ⟨rfl, rfl, rfl, Nat.le_refl _, fun k hk hm => ⟨rfl, ?_, fun _ => rfl⟩, fun _ _ _ e => e, fun l' t' hl' => ?_⟩, hle, hso, rfl⟩
  · rw [ob_upd] at hob
    split at hob
    · rename_i he
      obtain ⟨rfl, rfl⟩ := he
      obtain rfl := Option.some.inj hob
      refine ⟨g, ?_, ?_, cs, cty, hg, by rw [hcs]; exact Nat.mul_le_mul_right _ hlc, hs, fun i j hi hj => hle.tr (hT i j hi hj), hS⟩
      · show (if _ ∧ _ then _ else _) = _; rw [if_pos ⟨rfl, rfl⟩]
      · show (if _ = _ then _ else _) = _; rw [if_pos rfl]
    · obtain ⟨g', h1, h2, h3⟩ := h.obj lv t ob' hob
      exact ⟨g', hle.β _ _ _ h1, hso _ _ (fun e => by cases e) h2, h3.mono hle ⟨rfl, fun _ => rfl⟩ fun i k hk => ⟨rfl, fun _ => rfl, hso _ _ (fun e => by cases e) hk⟩⟩
  · rw [ob_upd]
    split
    · exact ⟨_, rfl⟩
    · rename_i hne'
      have hg2 : (if lv = s.lv ∧ t = dd then some g else G.β lv t) = some g' := hg'
      rw [if_neg hne'] at hg2
      exact h.dom _ _ _ hg2
  · have hq' : (if g' = g then some (Pl.ob s.lv dd) else G.ω g') = some q := hq
    split at hq'
    · rename_i e; subst e; exact h.lim _ _ hω
    · exact h.lim _ _ hq'
  · refine Tr.aref _ _ _ g cap ?_ hlc
    show (if _ ∧ _ then _ else _) = _; rw [if_pos ⟨rfl, rfl⟩]
  · show (if k = g then _ else _) = _
    rw [if_neg (by rintro rfl; exact hm _ hω trivial)]
  · show (if l' = s.lv ∧ t' = dd then _ else _) = _
    rw [if_neg (by omega)]
theorem Grew.new {dd : Nat} {ob : Ob} (hd : s.b dd = none) : Grew s { s with b := upd s.b dd (some ob) } := by
  refine ⟨rfl, rfl, rfl, rfl, rfl, rfl, fun l u ob' he => ?_⟩
  rw [ob_upd, if_neg (by rintro ⟨rfl, rfl⟩; rw [ob_b, hd] at he; cases he)]
  exact he
theorem uMake_grew {dd : Nat} {v v' : V} {s1 : St} (hv : uMake s dd v = some (v', s1)) : Grew s s1 := by
  unfold uMake at hv
  split at hv
  · obtain ⟨_, rfl⟩ := Prod.mk.inj (Option.some.inj hv); exact .refl _
  · split at hv
    · rename_i hd
      obtain ⟨_, rfl⟩ := Prod.mk.inj (Option.some.inj hv); exact .new hd
    · cases hv
  · obtain ⟨_, rfl⟩ := Prod.mk.inj (Option.some.inj hv); exact .refl _
theorem OwnU.nil_slc {p : Pl} {sz : Nat} {x : Value} (h : OwnU G w p sz [] x) : OwnC G w p (.slc true sz []) x := by
  obtain ⟨a, cap, rfl, ⟨_, rfl⟩ | ⟨g, cs, cty, rfl, hω, hg, hcs, hlc, hs, hT, hS⟩⟩ := h
  · exact ⟨Tr.slc0 _ _ _, a, 0, rfl, .inl rfl⟩
  · exact ⟨Tr.slc0 _ _ _, _, cap, rfl, .inr ⟨g, cs, cty, rfl, hω, hg, hcs, fun j _ => hS j⟩⟩
theorem uMake_ok (h : Rel G s a w) {j dd : Nat} {v v' : V} {x : Value} {s1 : St} (hX : OwnC G w (.rs 0 j) v x) (hv : uMake s dd v = some (v', s1)) :
    ∃ G', Rel G' s1 a w ∧ OwnC G' w (.rs 0 j) v' x ∧ Fr s.lv G w G' w ∧ Le G G' ∧ (∀ k q, q ≠ .rs 0 j → G.ω k = some q → G'.ω k = some q) ∧ G'.S = G.S := by
  unfold uMake at hv
  split at hv
  · obtain ⟨rfl, rfl⟩ := Prod.mk.inj (Option.some.inj hv)
    exact ⟨G, h, OwnU.nil_slc hX, Fr.refl _ _ _, Le.refl _, fun _ _ _ e => e, rfl⟩
  · rename_i sz y l
    split at hv
    · rename_i hd
      obtain ⟨rfl, rfl⟩ := Prod.mk.inj (Option.some.inj hv)
      obtain ⟨G', h1, h2, h3, h4, h5, h6⟩ := h.uMk (l := y :: l) hX (by simp) hd
      exact ⟨G', h1, OwnC.of_view h2 (fun _ _ e => by cases e), h3, h4, h5, h6⟩
    · cases hv
  · obtain ⟨rfl, rfl⟩ := Prod.mk.inj (Option.some.inj hv)
    exact ⟨G, h, hX, Fr.refl _ _ _, Le.refl _, fun _ _ _ e => e, rfl⟩
theorem uMakes_grew : ∀ {l : List V} {s : St} {dd : Nat} {l' : List V} {s1 : St}, uMakes s dd l = some (l', s1) → Grew s s1 := by
  intro l
  induction l with
  | nil => intro s dd l' s1 hv; obtain ⟨_, rfl⟩ := Prod.mk.inj (Option.some.inj hv); exact .refl _
  | cons c l ih =>
    intro s dd l' s1 hv
    unfold uMakes at hv
    split at hv
    · rename_i l2 s2 h1
      obtain ⟨⟨v, s3⟩, hr, he⟩ := Option.map_eq_some_iff.1 hv
      obtain ⟨_, rfl⟩ := Prod.mk.inj he
      exact (ih h1).trans (uMake_grew hr)
    · cases hv
theorem uMakes_ok {X : Nat → Value} : ∀ {l : List V} {G : Gh} {s : St} {k dd : Nat} {l' : List V} {s1 : St}, Rel G s a w → (∀ j, j < l.length → OwnC G w (.rs 0 (k + j)) (l.getD j .undef) (X (k + j))) → uMakes s dd l = some (l', s1) →
    ∃ G', Rel G' s1 a w ∧ l'.length = l.length ∧ (∀ j, j < l.length → OwnC G' w (.rs 0 (k + j)) (l'.getD j .undef) (X (k + j))) ∧ Fr s.lv G w G' w ∧ Le G G' ∧ (∀ g q, (∀ j, k ≤ j → q ≠ .rs 0 j) → G.ω g = some q → G'.ω g = some q) ∧ G'.S = G.S := by
  intro l
  induction l with
  | nil =>
    intro G s k dd l' s1 h hX hv
    obtain ⟨rfl, rfl⟩ := Prod.mk.inj (Option.some.inj hv)
    exact ⟨G, h, rfl, fun j hj => absurd hj (Nat.not_lt_zero _), Fr.refl _ _ _, Le.refl _, fun _ _ _ e => e, rfl⟩
  | cons c l ih =>
    intro G s k dd l' s1 h hX hv
    unfold uMakes at hv
    split at hv
    · rename_i l2 s2 h1
      obtain ⟨⟨v, s3⟩, hr, he⟩ := Option.map_eq_some_iff.1 hv
      obtain ⟨rfl, rfl⟩ := Prod.mk.inj he
      obtain ⟨G1, a1, a2, a3, a4, a5, a6, a7⟩ := ih (k := k + 1) h (fun j hj => by
        have := hX (j + 1) (by simpa using hj)
        rw [show k + 1 + j = k + (j + 1) by omega]
        exact this) h1
      have hc : OwnC G1 w (.rs 0 k) c (X k) := (hX 0 (by simp)).mono a5 fun g hg => ⟨rfl, fun i => by rw [a7], a6 g _ (fun j hj e => by injection e; omega) hg⟩
      obtain ⟨G2, b1, b2, b3, b4, b5, b6⟩ := uMake_ok a1 hc hr
      have hlv : s2.lv = s.lv := (uMakes_grew h1).lv
      refine ⟨G2, b1, by simp [a2], fun j hj => ?_, a4.trans (by rw [hlv] at b3; exact b3), ⟨fun g j c e => b4.S _ _ _ (a5.S _ _ _ e), fun l t g e => b4.β _ _ _ (a5.β _ _ _ e)⟩, fun g q hq e => b5 g q (hq k (Nat.le_refl _)) (a6 g q (fun j hj => hq j (by omega)) e), b6.trans a7⟩
      cases j with
      | zero => exact b2
      | succ j =>
        have := a3 j (by simpa using hj)
        rw [show k + 1 + j = k + (j + 1) by omega] at this
        exact this.mono b4 fun g hg => ⟨rfl, fun i => by rw [b6], b5 g _ (fun e => by injection e; omega) hg⟩
    · cases hv
/-- a value, cell by cell, put into a variable -/
theorem boxStore {s' : St} {lv u off g : Nat} {cs cv : List V} {t : TypeId} {X : Value} (h1 : Rel G s' a w) (ho : s'.ob lv u = some (.box cs)) (hg : G.β lv u = some g) (hl : cv.length = szOf P t) (hx : X.cells.size = szOf P t) (hb : off + szOf P t ≤ cs.length) (hz : szOf P t ≠ 0) (hok : cv.all cellOk = true)
    (q2 : ∀ j, j < cv.length → OwnC G w (.rs 0 j) (cv.getD j .undef) (X.cells.getD j Go.undef)) : ∃ w' G', (storeVar t ⟨g, off, none⟩ X).run P w = .ok () w' ∧ Rel G' (s'.setOb lv u (.box (setL cs off cv))) a w' ∧ Fr s'.lv G w G' w' := by
  obtain ⟨g', hg', hω, en, ety, hbk, hlen, hS, hT⟩ := h1.obj lv u _ ho
  obtain rfl : g' = g := by rw [hg] at hg'; exact (Option.some.inj hg').symm
  have hone : ∀ z ∈ X.cells.toList, z.oneCell' = true := by
    intro z hz'
    obtain ⟨j, hj, rfl⟩ := List.getElem_of_mem hz'
    have hj' : j < cv.length := by simp at hj; omega
    have := q2 j hj'
    have hc : cellOk (cv.getD j .undef) = true := by
      rw [List.all_eq_true] at hok
      refine hok _ ?_
      rw [List.getD_eq_getElem?_getD, List.getElem?_eq_getElem hj', Option.getD_some]
      exact List.getElem_mem hj'
    have := (this.one hc).2
    rw [getD_array_of (by simpa using hj)] at this
    simpa using this
  have hst := store_run (P := P) hz hbk hx (off := off) (by omega) hone
  have hnew := setRow_heap w g' en (en.toList.take off ++ X.cells.toList ++ en.toList.drop (off + szOf P t)).toArray ety _ hbk
  generalize hw' : w.setRow g' (en.toList.take off ++ X.cells.toList ++ en.toList.drop (off + szOf P t)).toArray = w' at hst hnew
  have hoth : ∀ k, k ≠ g' → w'.heap[k]? = w.heap[k]? := fun k hk => by rw [← hw']; exact setRow_other w g' k _ hk
  have hws : w'.heap.size = w.heap.size := by rw [← hw']; simp
  refine ⟨w', _, hst, h1.setOb (G' := G.ren (putOF lv u off)) ho hg hω (G.ren_le _) rfl (fun k p hk hp hr hpk => ⟨hoth k hk, fun _ => rfl, ?_⟩) (fun k j c hc => ?_) (fun k p hp => by rw [hws]; exact ren_lim h1.lim k p hp) (by rw [ren_ω hω]; rfl) ?_, ⟨by rw [← hw']; rfl, by rw [← hw']; rfl, by rw [← hw']; rfl, by rw [hws]; exact Nat.le_refl _, fun k hk hm => ⟨hoth k (by rintro rfl; exact hm _ hω trivial), ?_, fun _ => rfl⟩, fun _ _ _ e => e, fun _ _ _ => rfl⟩⟩
  · rw [ren_ω hpk]
    cases p with
    | rs c j => exact absurd rfl (hr c j)
    | _ => rfl
  · have hkg : k ≠ g' := by rintro rfl; have : G.S k j = some c := hc; rw [hS] at this; cases this
    have := h1.imm _ _ _ hc
    simp only [World.cell?, hoth k hkg]
    exact this
  · refine ⟨_, ety, hnew, ?_, hS, fun j hj => ?_⟩
    · rw [length_setL _ _ _ (by omega), size_row (by simp [hx]) (by omega)]; exact hlen
    · rw [length_setL _ _ _ (by omega)] at hj
      rw [getD_setL _ _ _ _ (by omega), getD_row (by simp [hx]) (by omega), hl]
      by_cases hin : off ≤ j ∧ j < off + szOf P t
      · rw [if_pos hin, if_pos hin]
        have := q2 (j - off) (by omega)
        have h8 := (this.ren (putOF lv u off) (p' := .cl lv u j) (by simp only [putOF]; congr 1; omega)).mono (G' := G.ren (putOF lv u off)) (w' := w') (p' := .cl lv u j) ⟨fun _ _ _ e => e, fun _ _ _ e => e⟩ (fun k hk => ⟨hoth k (by
          rintro rfl
          have hω' := ren_ω (f := putOF lv u off) hω
          rw [hk] at hω'
          cases hω'), fun _ => rfl, hk⟩)
        simpa [List.getD_eq_getElem?_getD, Array.getD_eq_getD_getElem?] using h8
      · rw [if_neg hin, if_neg hin]
        exact (hT j hj).mono (G.ren_le _) (fun k hk => ⟨hoth k (by rintro rfl; rw [hω] at hk; cases hk), fun _ => rfl, by rw [ren_ω hk]; rfl⟩)
  · cases hωk : G.ω k with
    | none => simp [Gh.ren, hωk]
    | some p =>
      rw [ren_ω hωk]
      cases p with
      | rs c j => exact absurd trivial (hm _ hωk)
      | _ => rfl
theorem op_storeM {x y : Operand} {t : TypeId} {s1 : St} (h : Rel G s a w) (hv : uStoreM P s t y (s.see P 0 x) = some s1) : OpU P ⟨d, .store t x y, ty, pos, af, gd⟩ G s a w s1 := by
  have hx := h.see P 0 x
  unfold uStoreM at hv
  generalize s.see P 0 x = xv at hv hx
  split at hv
  · rename_i lv u off
    dsimp only at hv
    split at hv
    · rename_i hc
      obtain ⟨hlvu, hl⟩ := hc
      have hs1 : s.all P t y ≠ .undef ∧ (∀ l, s.all P t y ≠ .tup l) ∧ ∃ cs' s2, uMakes (s.drop y) (s.n + 64 * u + off) (s.all P t y).flat = some (cs', s2) ∧ ∃ cs, s2.ob lv u = some (.box cs) ∧ (off + szOf P t ≤ cs.length ∧ szOf P t ≠ 0 ∧ cs'.all cellOk ∧ cs'.all (lowV lv)) ∧ s1 = s2.setOb lv u (.box (setL cs off cs')) := by
        split at hv
        · cases hv
        · cases hv
        · rename_i n1 n2
          refine ⟨fun e => n2 e, fun l e => n1 l e, ?_⟩
          split at hv
          · rename_i cs' s2 hm
            refine ⟨cs', s2, hm, ?_⟩
            split at hv
            · rename_i cs ho
              split at hv
              · rename_i hcc
                exact ⟨cs, ho, hcc, (Option.some.inj hv).symm⟩
              · cases hv
            · cases hv
          · cases hv
      obtain ⟨hu, ht, cs', s2, hm, cs, ho, ⟨hb, hz, hok, _⟩, rfl⟩ := hs1
      obtain ⟨G1, h1, h2, h3, _, h5, h6⟩ := h.all P t y
      obtain ⟨q1, q2⟩ := (h2.toV ht).cells hu ht
      obtain ⟨G2, m1, m2, m3, m4, m5, m6, m7⟩ := uMakes_ok (X := fun j => (a.eval y).cells.getD j Go.undef) (k := 0) h1 (fun j hj => by rw [Nat.zero_add]; exact q2 j hj) hm
      obtain ⟨g, hg, hxe⟩ := hx.ptr_inv
      rw [← h6] at hg
      obtain ⟨w', G3, n1, n2, n3⟩ := boxStore (P := P) (t := t) (X := a.eval y) m1 ho (m5.β _ _ _ hg) (by rw [m2]; exact hl) (by omega) hb hz hok (fun j hj => by
        have := m3 j (by omega)
        rw [Nat.zero_add] at this
        exact this)
      have hlv2 : s2.lv = s.lv := by rw [(uMakes_grew hm).lv, drop_lv]
      refine ⟨w', G3, ?_, n2, (h3.trans (by rw [drop_lv] at m4; exact m4)).trans (by rw [hlv2] at n3; exact n3)⟩
      simp only [execOp, Instr.storeAt, hxe, Instr.sureAddr, Sem.run_bind, Sem.run_pure, Result.andThen_ok, n1]
    · cases hv
  · cases hv
/-- a variable's list made an object -/
theorem op_takeM {i dd : Nat} {v : V} {s1 : St} (h : Rel G s a w) (op : Op) (hop : op = .move (.tmp i) ∨ op = .assign (.tmp i)) (hv : uMake (s.drop (.tmp i)) dd (s.t i) = some (v, s1)) :
    OpOk P ⟨d, op, ty, pos, af, gd⟩ G s a w v s1 := by
  obtain ⟨G', h1, h2, h3, _⟩ := h.take i
  have hrun : (execOp a.eval ⟨d, op, ty, pos, af, gd⟩).run P w = .ok (.value (a.eval (.tmp i))) w := by rcases hop with rfl | rfl <;> rfl
  by_cases hq : ∃ sz l, s.t i = .uq sz l
  · obtain ⟨sz, l, hq⟩ := hq
    have h2' : OwnC G' w (.rs 0 0) (s.t i) (a.tmps.getD i undef) := by rw [hq] at h2 ⊢; exact h2
    obtain ⟨G2, m1, m2, m3, _⟩ := uMake_ok h1 h2' hv
    have hf : OwnS G2 w Pl.rs v (a.eval (.tmp i)) := by
      rw [hq] at hv
      unfold uMake at hv
      split at hv
      · obtain ⟨rfl, rfl⟩ := Prod.mk.inj (Option.some.inj hv); exact m2
      · split at hv
        · obtain ⟨rfl, rfl⟩ := Prod.mk.inj (Option.some.inj hv); exact m2
        · cases hv
      · obtain ⟨rfl, rfl⟩ := Prod.mk.inj (Option.some.inj hv); exact m2
    exact ⟨_, w, G2, hrun, m1, hf, h3.trans m3⟩
  · have : v = s.t i ∧ s1 = s.drop (.tmp i) := by
      unfold uMake at hv
      split at hv
      · rename_i e; exact absurd ⟨_, _, e⟩ hq
      · rename_i e; exact absurd ⟨_, _, e⟩ hq
      · obtain ⟨rfl, rfl⟩ := Prod.mk.inj (Option.some.inj hv); exact ⟨rfl, rfl⟩
    obtain ⟨rfl, rfl⟩ := this
    exact ⟨_, w, G', hrun, h1, h2, h3⟩
theorem op_frz {i : Nat} {v : V} {s1 : St} {t : TypeId} (h : Rel G s a w) (op : Op) (hop : op = .move (.tmp i) ∨ op = .assign (.tmp i)) (hv : s.tree P t (.tmp i) = some (v, s1)) :
    OpOk P ⟨d, op, ty, pos, af, gd⟩ G s a w v s1 := by
  obtain ⟨G', h1, h2, h3, _⟩ := h.tree hv
  exact ⟨a.eval (.tmp i), w, G', by rcases hop with rfl | rfl <;> rfl, h1, OwnS.of_tr' h3, h2.fr⟩
end Go.Ev
namespace Go.Ev
open Go
set_option linter.unusedVariables false
set_option linter.unusedSimpArgs false
variable {P : Program} {G : Gh} {s : St} {a : Act} {w : World} {o : Oper}
variable {d : Option Nat} {ty : TypeId} {pos : String} {af : Array Edge} {gd : Option (Nat × Bool)}

theorem elemOf_slice {t e : TypeId} (h : P.underlying t = some (.slice e)) : elemOf P t = e := by unfold elemOf; rw [h]
theorem pk {x : Option V} {v : V} {s1 : St} (h : x.map (·, s) = some (v, s1)) : x = some v ∧ s1 = s := by
  obtain ⟨u, hu, he⟩ := Option.map_eq_some_iff.1 h
  obtain ⟨rfl, rfl⟩ := Prod.mk.inj he
  exact ⟨hu, rfl⟩
theorem evV_ok {H : Hint} {dd : Nat} {ty' : TypeId} {op : Op} {v : V} {s1 : St} (h : Rel G s a w) (hv : evV P H dd ty op s = some (v, s1)) : OpOk P ⟨d, op, ty, pos, af, gd⟩ G s a w v s1 := by
  have mv : ∀ x : Operand, (op = .move x ∨ op = .assign x) → (match x with
    | .tmp i => if memN dd H.frz then s.tree P ty (.tmp i) else if memN dd H.take then (if memN dd H.make then uMake (s.drop x) dd (s.t i) else some (s.t i, s.drop x)) else some ((s.t i).view, s)
    | x => some (rd P s.t ty x, s)) = some (v, s1) → OpOk P ⟨d, op, ty, pos, af, gd⟩ G s a w v s1 := by
    intro x hx hv
    split at hv
    · split at hv
      · exact op_frz h op hx hv
      · split at hv
        · split at hv
          · exact op_takeM h op hx hv
          · obtain ⟨rfl, rfl⟩ := Prod.mk.inj (Option.some.inj hv)
            exact op_take h op hx
        · obtain ⟨rfl, rfl⟩ := Prod.mk.inj (Option.some.inj hv)
          exact op_move h op hx
    · rename_i hn
      obtain ⟨rfl, rfl⟩ := Prod.mk.inj (Option.some.inj hv)
      exact op_const h op hx fun i e => hn i e
  unfold evV at hv
  split at hv
  · exact mv _ (.inl rfl) hv
  · exact mv _ (.inr rfl) hv
  · -- pick
    split at hv
    · rename_i cb hc
      obtain ⟨rfl, rfl⟩ := Prod.mk.inj (Option.some.inj hv)
      exact op_pick h hc
    · cases hv
  · -- alloc
    split at hv
    · rename_i z hb hz
      split at hv
      · obtain ⟨rfl, rfl⟩ := Prod.mk.inj (Option.some.inj hv)
        exact op_alloc h hb hz
      · cases hv
    · cases hv
  · -- box
    split at hv
    · cases hv
    · cases hv
    · rename_i u hb ht hu
      split at hv
      · obtain ⟨rfl, rfl⟩ := Prod.mk.inj (Option.some.inj hv)
        exact op_box h hb rfl hu ht
      · cases hv
    · cases hv
  · -- build
    split at hv
    · rename_i fs z hu hz
      split at hv
      · rename_i hf
        obtain ⟨r, hr, he⟩ := Option.map_eq_some_iff.1 hv
        obtain ⟨rfl, rfl⟩ := Prod.mk.inj he
        exact op_build h hu hz hf hr
      · cases hv
    · rename_i n e z hu hz
      split at hv
      · rename_i hc
        simp only [Bool.and_eq_true, bne_iff_ne, ne_eq, beq_iff_eq] at hc
        obtain ⟨⟨⟨⟨h1, h2⟩, h3⟩, h4⟩, h5⟩ := hc
        split at hv
        · rename_i vs s2 ht
          split at hv
          · rename_i hf
            obtain ⟨rfl, rfl⟩ := Prod.mk.inj (Option.some.inj hv)
            exact op_buildArray h hu hz h3 h4 h1 h2 ht hf
          · cases hv
        · cases hv
      · cases hv
    · cases hv
  · -- buildSlice
    rename_i t n ps
    split at hv
    · rename_i hc
      simp only [Bool.and_eq_true, bne_iff_ne, ne_eq, beq_iff_eq, decide_eq_true_eq] at hc
      obtain ⟨⟨⟨⟨⟨h1, h2⟩, h3⟩, h4⟩, h5⟩, h6⟩ := hc
      obtain ⟨e, he, hel⟩ := isSl_spec h1
      obtain ⟨z, hz⟩ := Option.isSome_iff_exists.1 h6
      have hes : elemSz P t = szOf P e := by unfold elemSz; rw [hel]
      rw [hes] at h4 h5 hv
      rw [hel] at hz hv
      split at hv
      · rename_i vs s2 ht
        split at hv
        · rename_i hf
          split at hv
          · split at hv
            · rename_i hb
              obtain ⟨rfl, rfl⟩ := Prod.mk.inj (Option.some.inj hv)
              exact op_buildArr h he h4 hz h2 h3 h5 ht hf hb
            · cases hv
          · obtain ⟨rfl, rfl⟩ := Prod.mk.inj (Option.some.inj hv)
            exact op_buildSlice h he h4 hz h2 h3 h5 ht hf
        · cases hv
      · cases hv
    · cases hv
  · exact op_load h hv
  · -- nil
    split at hv <;> first
      | (cases hv; done)
      | (rename_i hc
         obtain ⟨rfl, rfl⟩ := Prod.mk.inj (Option.some.inj hv)
         refine op_nil h hc ?_
         first
          | exact .inl ⟨_, _, _, rfl⟩
          | exact .inr (.inl ⟨_, rfl⟩)
          | exact .inr (.inr (.inl ⟨_, _, _, _, rfl⟩))
          | exact .inr (.inr (.inr ⟨_, _, rfl⟩)))
  · split at hv
    · rename_i hn
      obtain ⟨k, rfl⟩ := pk hv; exact op_nilCmp h hn k
    · obtain ⟨k, rfl⟩ := pk hv; exact op_bin h k
  · obtain ⟨k, rfl⟩ := pk hv; exact op_un h k
  · obtain ⟨k, rfl⟩ := pk hv; exact op_convert h k
  · -- makeFunc
    split at hv
    · rename_i hf
      obtain ⟨cs, hcs, he⟩ := Option.map_eq_some_iff.1 hv
      obtain ⟨rfl, rfl⟩ := Prod.mk.inj he
      rename_i first caps
      obtain rfl : first = #[] := Array.isEmpty_iff.1 hf
      exact op_makeFunc h hcs
    · cases hv
  · -- makeMap
    split at hv
    · rename_i hb
      obtain ⟨rfl, rfl⟩ := Prod.mk.inj (Option.some.inj hv)
      exact op_makeMap h hb
    · cases hv
  · -- makeSlice
    rename_i t l c
    split at hv
    · rename_i n m z hx hy hz
      split at hv
      · rename_i hc
        obtain ⟨h1, h2, h3, h4, h5⟩ := hc
        obtain ⟨e, he, hel⟩ := isSl_spec h1
        have hes : elemSz P t = szOf P e := by unfold elemSz; rw [hel]
        rw [hes] at h2 h4 h5 hv
        rw [hel] at hz h3 hv
        split at hv
        · rename_i hr
          split at hv
          · split at hv
            · rename_i hb
              obtain ⟨rfl, rfl⟩ := Prod.mk.inj (Option.some.inj hv)
              exact op_makeArr h he hx hy hz h4 h2 h5 h3 hr.1 hr.2.1 hr.2.2 hb
            · cases hv
          · obtain ⟨rfl, rfl⟩ := Prod.mk.inj (Option.some.inj hv)
            exact op_make h he hx hy hz h4 h2 h5 h3 hr.1 hr.2.1 hr.2.2
        · cases hv
      · cases hv
    · cases hv
  · -- slice
    split at hv
    · rename_i l r m hl hr hm
      obtain ⟨k, rfl⟩ := pk hv
      exact op_slice h hl hr hm k
    · cases hv
  · obtain ⟨k, rfl⟩ := pk hv; exact op_fieldAddr h k
  · obtain ⟨k, rfl⟩ := pk hv; exact op_field h k
  · obtain ⟨k, rfl⟩ := pk hv; exact op_indexAddr h k
  · obtain ⟨k, rfl⟩ := pk hv; exact op_index h k
  · split at hv
    · rename_i kt e hu
      obtain ⟨k, rfl⟩ := pk hv; exact op_lookup h hu k
    · cases hv
  · -- extract
    split at hv
    · split at hv
      · rename_i u l hu
        obtain ⟨x, hx, he⟩ := Option.map_eq_some_iff.1 hv
        obtain ⟨rfl, rfl⟩ := Prod.mk.inj he
        exact op_extract h hu hx
      · cases hv
    · cases hv
  · -- builtins
    rename_i b args argTypes
    obtain ⟨args⟩ := args
    obtain ⟨argTypes⟩ := argTypes
    dsimp only at hv
    split at hv
    · obtain ⟨k, rfl⟩ := pk hv; exact op_len h k
    · obtain ⟨k, rfl⟩ := pk hv; exact op_min h k
    · obtain ⟨k, rfl⟩ := pk hv; exact op_max h k
    · obtain ⟨u, hu, he⟩ := Option.map_eq_some_iff.1 hv
      obtain ⟨rfl, rfl⟩ := Prod.mk.inj he
      exact op_appendU h hu
    · cases hv
  · cases hv
theorem evU_ok {H : Hint} {op : Op} {s1 : St} (h : Rel G s a w) (hv : evU P H op s = some s1) : OpU P ⟨d, op, ty, pos, af, gd⟩ G s a w s1 := by
  unfold evU at hv
  split at hv
  · split at hv
    · exact op_storeM h hv
    · exact op_store h hv
  · exact op_map h hv _ (.inl rfl)
  · exact op_map h hv _ (.inr rfl)
  · cases hv
end Go.Ev
namespace Go.Ev
open Go
set_option linter.unusedVariables false
set_option linter.unusedSimpArgs false
variable {P : Program} {G : Gh} {s : St} {a : Act} {w : World} {o : Oper}
variable {d : Option Nat} {ty : TypeId} {pos : String} {af : Array Edge} {gd : Option (Nat × Bool)}

theorem pureC_flat {v : V} (h : pureC v = true) : v.flat.all pureC = true := by
  cases v <;> first | (simpa [V.flat] using h) | cases h
theorem all_getD {l : List V} (h : l.all pureC = true) {i : Nat} (hi : i < l.length) : pureC (l.getD i .undef) = true := by
  rw [List.getD_eq_getElem?_getD, List.getElem?_eq_getElem hi]
  exact List.all_eq_true.1 h _ (List.getElem_mem hi)
/-- what refers to nothing that may change means the same whatever lies where -/
theorem Tr.pure {S β} {v : V} {x : Value} (h : Tr S β v x) (β' : Nat → Nat → Option Nat) : v.flat.all pureC = true → Tr S β' v x := by
  induction h with
  | undef x => exact fun _ => .undef x
  | bool b => exact fun _ => .bool b
  | int k n => exact fun _ => .int k n
  | str s => exact fun _ => .str s
  | slc0 sz a cap => exact fun _ => .slc0 sz a cap
  | slc sz l b o cap c hc hs hS0 hT ih =>
    intro _
    refine .slc sz l b o cap c hc hs hS0 fun i j hi hj => ih i j hi hj ?_
    have hm : l.getD i .undef ∈ l := by
      rw [List.getD_eq_getElem?_getD, List.getElem?_eq_getElem hi]
      exact List.getElem_mem hi
    obtain ⟨h1, h2⟩ := hs _ hm
    exact pureC_flat (all_getD h2 (by omega))
  | agg l cs hl hT ih => exact fun hp => .agg l cs hl fun i hi => ih i hi (pureC_flat (all_getD hp hi))
  | ptr lv t off g h => intro hp; cases hp
  | imp l b o c hp hS0 hT ih => exact fun _ => .imp l b o c hp hS0 fun j hj => ih j hj (pureC_flat (all_getD hp hj))
  | eptr lv t i g sz h => intro hp; cases hp
  | aref lv t n g cap h hc => intro hp; cases hp
  | mp lv t g h => intro hp; cases hp
  | fn f caps cs hl hT ih =>
    intro hp
    cases caps with
    | nil => exact .fn f [] cs hl fun i hi => absurd hi (Nat.not_lt_zero _)
    | cons c l => cases hp
  | nilp => exact fun _ => .nilp
  | nilfn => exact fun _ => .nilfn

theorem obIn_lt {t : Nat} : ∀ (o : List (Nat → Option Ob)) {l : Nat} {ob : Ob}, obIn t l o = some ob → l < o.length := by
  intro o
  induction o with
  | nil => intro l ob h; cases h
  | cons f o ih =>
    intro l ob h
    unfold obIn at h
    split at h
    · simp; omega
    · have := ih h; simp; omega
theorem ob_outer {t l : Nat} (h : l < s.o.length) : s.ob l t = obIn t l s.o := by
  show (if l = s.o.length then s.b t else obIn t l s.o) = _
  rw [if_neg (by omega)]
theorem ob_inner {t : Nat} : s.ob s.lv t = s.b t := by
  show (if s.o.length = s.o.length then s.b t else obIn t s.o.length s.o) = _
  rw [if_pos rfl]
theorem ob_lt {t l : Nat} {ob : Ob} (h : s.ob l t = some ob) : l ≤ s.lv := by
  have := obIn_lt _ h
  simp [St.lv] at *; omega

theorem outC_pure {v : V} (h : ∀ sz l, v ≠ .uq sz l) : v.outC = pureC v.viewC := by cases v <;> first | rfl | exact absurd rfl (h _ _)
theorem pure_outC {v : V} (h : pureC v.viewC = true) : v.outC = true := by
  by_cases hq : ∃ sz l, v = .uq sz l
  · obtain ⟨_, _, rfl⟩ := hq; rfl
  · rw [outC_pure fun sz l e => hq ⟨_, _, e⟩]; exact h
theorem OwnC.pureβ {p : Pl} {v : V} {x : Value} (h : OwnC G w p v x) (hp : v.outC = true) (β : Nat → Nat → Option Nat) : OwnC { G with β := β } w p v x := by
  by_cases hq : ∃ sz l, v = .uq sz l
  · obtain ⟨sz, l, rfl⟩ := hq
    obtain ⟨a, cap, rfl, h2⟩ := (h : OwnU G w p sz l x)
    refine ⟨a, cap, rfl, ?_⟩
    rcases h2 with h2 | ⟨g, cs, cty, rfl, hω, hg, hcs, hlc, hs, hT, hS⟩
    · exact .inl h2
    · refine .inr ⟨g, cs, cty, rfl, hω, hg, hcs, hlc, hs, fun i j hi hj => (hT i j hi hj).pure β (pureC_flat (all_getD (hs _ ?_).2 ?_)), hS⟩
      · rw [List.getD_eq_getElem?_getD, List.getElem?_eq_getElem hi]; exact List.getElem_mem hi
      · rw [(hs _ (by rw [List.getD_eq_getElem?_getD, List.getElem?_eq_getElem hi]; exact List.getElem_mem hi)).1]; exact hj
  rw [outC_pure fun sz l e => hq ⟨_, _, e⟩] at hp
  by_cases ho : ∃ sz l, v = .slc true sz l
  · obtain ⟨sz, l, rfl⟩ := ho
    exact ⟨h.1.pure β (pureC_flat hp), h.2⟩
  · rw [OwnC.eq (fun sz l e => ho ⟨_, _, e⟩) (fun sz l e => hq ⟨_, _, e⟩)] at h ⊢
    refine h.pure β (pureC_flat ?_)
    have : v.viewC = v := by
      cases v <;> try rfl
      · rename_i own sz l
        cases own
        · rfl
        · exact absurd ⟨_, _, rfl⟩ ho
      · exact absurd ⟨_, _, rfl⟩ hq
    rw [this] at hp; exact hp
theorem ownS_C {p : Nat → Nat → Pl} {v : V} {x : Value} (ha : ∀ l, v ≠ .agg l) (ht : ∀ l, v ≠ .tup l) : OwnS G w p v x = OwnC G w (p 0 0) v x := by
  unfold OwnS
  split
  · exact absurd rfl (ht _)
  · unfold OwnV
    split
    · exact absurd rfl (ha _)
    · rfl
theorem OwnS.pureβ {p : Nat → Nat → Pl} {v : V} {x : Value} (h : OwnS G w p v x) (hp : v.flat.all V.outC = true) (β : Nat → Nat → Option Nat) : OwnS { G with β := β } w p v x := by
  cases v
  case tup l => cases hp
  case agg l =>
    obtain ⟨cs, hx, hl, hT⟩ := h
    refine ⟨cs, hx, hl, fun j hj => (hT j hj).pureβ ?_ β⟩
    have hp' : l.all V.outC = true := hp
    rw [List.getD_eq_getElem?_getD, List.getElem?_eq_getElem hj]
    exact List.all_eq_true.1 hp' _ (List.getElem_mem hj)
  all_goals
    rw [ownS_C (fun l e => by cases e) (fun l e => by cases e)] at h ⊢
    refine OwnC.pureβ (G := G) h ?_ β
    simpa [V.flat] using hp
/-- a call has come to its end -/
structure Done (lv : Nat) (G : Gh) (w : World) (o : List (Nat → Option Ob)) (v : V) (x : Value) (w' : World) (G' : Gh) : Prop where
  own : ∀ β, OwnS { G' with β := β } w' Pl.rs v x
  fr : Fr lv G w G' w'
  len : o.length = lv
  obj : ∀ l t ob, obIn t l o = some ob → ∃ g, G'.β l t = some g ∧ G'.ω g = some (.ob l t) ∧ ObR G' w' l t g ob
  dom : ∀ l t g, l < lv → G'.β l t = some g → ∃ ob, obIn t l o = some ob
  imm : ∀ g j c, G'.S g j = some c → w'.cell? ⟨g, j, none⟩ = some c
  lim : ∀ g p, G'.ω g = some p → g < w'.heap.size
theorem Done.of_rel {G' : Gh} {s1 : St} {v : V} {x : Value} (h : Rel G' s1 a w) (hl : s1.lv = s.lv) (hf : Fr s.lv G w G' w) (hv : ∀ β, OwnS { G' with β := β } w Pl.rs v x) : Done s.lv G w s1.o v x w G' :=
  ⟨hv, hf, hl, fun l t ob ho => h.obj l t ob (by rw [ob_outer (obIn_lt _ ho)]; exact ho), fun l t g hlt hg => by
    obtain ⟨ob, ho⟩ := h.dom l t g hg
    rw [ob_outer (by rw [← hl] at hlt; exact hlt)] at ho
    exact ⟨ob, ho⟩, h.imm, h.lim⟩

def resR (P : Program) (a : Act) (r : ResultVar) : Sem Value := match r with
  | .tmp t => pure (a.tmps.getD t Go.undef)
  | .cell c ty => do loadVar ty (← asAddr (a.tmps.getD c Go.undef))
theorem run_val_inv {m : Sem Value} {x : Value} {w w' : World} (h : ((do pure (Next.value (← m)) : Sem Next)).run P w = .ok (.value x) w') : m.run P w = .ok x w' := by
  simp only [Sem.run_bind] at h
  cases hm : m.run P w with
  | ok y w1 =>
    rw [hm] at h
    simp only [Result.andThen_ok, Sem.run_pure, Result.ok.injEq, Next.value.injEq] at h
    rw [h.1, h.2]
  | halt y w1 => rw [hm] at h; cases h
theorem load_res {c : Nat} {t : TypeId} {x : Value} (h : (execOp a.eval ⟨d, .load t (.tmp c), ty, pos, af, gd⟩).run P w = .ok (.value x) w) : (resR P a (.cell c t)).run P w = .ok x w := by
  have := run_val_inv (m := Instr.loadAt t (a.eval (.tmp c))) h
  unfold Instr.loadAt at this
  unfold resR
  simp only [Sem.run_bind] at this ⊢
  have he : a.eval (.tmp c) = a.tmps.getD c Go.undef := rfl
  rw [he] at this
  generalize a.tmps.getD c Go.undef = u at this
  cases u <;> try (cases this; done)
  rename_i p
  cases p with
  | none => simp [Instr.sureAddr, Sem.run_bind, asAddr] at this
  | some p => simpa [Instr.sureAddr, asAddr] using this
theorem results_one {fn : Func} {r : ResultVar} {x : Value} (hr : fn.results.toList = [r]) (h : (resR P a r).run P w = .ok x w) : (results fn a.tmps).run P w = .ok x w := by
  obtain ⟨l, hl⟩ : ∃ l, fn.results = ⟨l⟩ := ⟨fn.results.toList, rfl⟩
  have : fn.results = #[r] := by rw [hl] at hr ⊢; simp at hr; rw [hr]
  unfold results
  rw [this]
  unfold resR at h
  cases r <;> simp [Sem.run_bind] at h ⊢ <;> simp [h]

theorem frz_lv (v : V) : (s.frz v).lv = s.lv := by
  unfold St.frz
  split
  · split
    · unfold St.setOb
      split
      · rfl
      · show (setIn _ _ _ s.o).length = s.o.length
        rename_i lv t _ _ _ _ _
        generalize s.o = o
        induction o with
        | nil => rfl
        | cons f o ih => unfold setIn; split <;> simp [*]
    · rfl
  · rfl
theorem Tr.view_eq {S β} {v : V} {x : Value} (h : Tr S β v x) : v.view = v := by
  cases v
  case agg l =>
    obtain ⟨cs, _, hl, hT⟩ := h.agg_inv
    simp only [V.view, V.agg.injEq]
    refine List.ext_getElem (by simp) fun i h1 h2 => ?_
    have h3 := hT i h2
    simp only [List.getD_eq_getElem?_getD, List.getElem?_eq_getElem h2, Option.getD_some] at h3
    rw [List.getElem_map]
    generalize l[i] = y at h3
    cases y <;> try rfl
    · rename_i own sz m
      cases own
      · rfl
      · cases h3
    · cases h3
  case uq => cases h
  case slc own sz l =>
    cases own
    · rfl
    · cases h
  case tup l => cases h
  all_goals rfl
theorem vLoad_lv {tk : Bool} {t : TypeId} {u v : V} {s1 : St} (h : vLoad P s tk t u = some (v, s1)) : s1.lv = s.lv := by
  unfold vLoad at h
  split at h
  · split at h
    · split at h
      · split at h <;> obtain ⟨_, rfl⟩ := Prod.mk.inj (Option.some.inj h)
        · exact setOb_lv _ _ _
        · rfl
      · cases h
    · cases h
  · split at h
    · obtain ⟨_, rfl⟩ := Prod.mk.inj (Option.some.inj h); rfl
    · cases h
  · split at h
    · split at h
      · obtain ⟨_, rfl⟩ := Prod.mk.inj (Option.some.inj h); rfl
      · cases h
    · cases h
  · cases h
theorem view_pure {v : V} (h : pureC v.viewC = true) : v.view.flat.all pureC = true := by
  cases v <;> first | (simpa [V.view, V.viewC, V.flat] using h) | cases h
theorem outC_tr {v : V} {x : Value} (h : Tr G.S G.β v x) (hp : v.flat.all pureC = true) : v.flat.all V.outC = true := by
  rw [List.all_eq_true] at hp ⊢
  intro y hy
  refine pure_outC ?_
  have h1 := hp y hy
  have h2 : y.viewC = y := by
    cases y <;> try rfl
    · rename_i own sz l
      cases own
      · rfl
      · cases h1
    · cases h1
  rw [h2]; exact h1
theorem resC_ok {s s1 : St} {G : Gh} {j : Nat} {v v' : V} {x : Value} (h : Rel G s a w) (hX : OwnC G w (.rs 0 j) v x) (hv : resC s v = some (v', s1)) : ∃ G', Rel G' s1 a w ∧ Still G s w G' s1 ∧ OwnC G' w (.rs 0 j) v' x ∧ v'.outC = true := by
  unfold resC at hv
  split at hv
  · rename_i lv u n
    obtain ⟨y, hy, he⟩ := Option.map_eq_some_iff.1 hv
    obtain ⟨rfl, rfl⟩ := Prod.mk.inj he
    obtain ⟨G', h1, h2⟩ := h.frz (.aref lv u n)
    have h3 : Tr G.S G.β (.aref lv u n) x := hX
    obtain ⟨k1, k2, k3, k4⟩ := tree_tr h1 (h2.le.tr h3) hy
    have hsl : ∃ sz l, y = .slc false sz l := by
      unfold tree at hy
      dsimp only at hy
      split at hy
      · split at hy
        · exact ⟨_, _, (Option.some.inj hy).symm⟩
        · cases hy
      · cases hy
    obtain ⟨sz, l, rfl⟩ := hsl
    exact ⟨G', h1, h2, k1, rfl⟩
  · split at hv
    · rename_i hp
      obtain ⟨rfl, rfl⟩ := Prod.mk.inj (Option.some.inj hv)
      exact ⟨G, h, .refl, hX, hp⟩
    · cases hv
theorem resCs_ok {X : Nat → Value} : ∀ {l : List V} {G : Gh} {s : St} {k : Nat} {l' : List V} {s1 : St}, Rel G s a w → (∀ j, j < l.length → OwnC G w (.rs 0 (k + j)) (l.getD j .undef) (X (k + j))) → resCs s l = some (l', s1) →
    ∃ G', Rel G' s1 a w ∧ Still G s w G' s1 ∧ l'.length = l.length ∧ l'.all V.outC = true ∧ ∀ j, j < l.length → OwnC G' w (.rs 0 (k + j)) (l'.getD j .undef) (X (k + j)) := by
  intro l
  induction l with
  | nil =>
    intro G s k l' s1 h hX hv
    obtain ⟨rfl, rfl⟩ := Prod.mk.inj (Option.some.inj hv)
    exact ⟨G, h, .refl, rfl, rfl, fun j hj => absurd hj (Nat.not_lt_zero _)⟩
  | cons c l ih =>
    intro G s k l' s1 h hX hv
    unfold resCs at hv
    split at hv
    · rename_i c' s2 h1
      split at hv
      · rename_i l2 s3 h2
        obtain ⟨rfl, rfl⟩ := Prod.mk.inj (Option.some.inj hv)
        obtain ⟨G1, a1, a2, a3, a4⟩ := resC_ok h (hX 0 (by simp)) h1
        have own1 : ∀ {p : Pl} {v : V} {x : Value} {G G' : Gh} {s s' : St}, Still G s w G' s' → (∃ c j, p = .rs c j) → OwnC G w p v x → OwnC G' w p v x := by
          rintro p v x G G' s s' st ⟨c, j, rfl⟩ ho
          exact ho.mono st.le fun g hg => ⟨rfl, fun i => st.own g c j hg i, by rw [st.ω]; exact hg⟩
        obtain ⟨G2, b1, b2, b3, b4, b5⟩ := ih (k := k + 1) a1 (fun j hj => by
          have := hX (j + 1) (by simpa using hj)
          rw [show k + 1 + j = k + (j + 1) by omega]
          exact own1 a2 ⟨_, _, rfl⟩ this) h2
        refine ⟨G2, b1, a2.trans b2, by simp [b3], by simp [a4, b4], fun j hj => ?_⟩
        cases j with
        | zero => exact own1 b2 ⟨_, _, rfl⟩ a3
        | succ j =>
          have := b5 j (by simpa using hj)
          rw [show k + 1 + j = k + (j + 1) by omega] at this
          exact this
      · cases hv
    · cases hv
theorem resW_ok {s s1 : St} {G : Gh} {v v' : V} {x : Value} (h : Rel G s a w) (hX : OwnS G w Pl.rs v x) (hv : resW s v = some (v', s1)) : ∃ G', Rel G' s1 a w ∧ Still G s w G' s1 ∧ OwnS G' w Pl.rs v' x ∧ v'.flat.all V.outC = true := by
  unfold resW at hv
  split at hv
  · rename_i l
    obtain ⟨⟨l', s2⟩, hr, he⟩ := Option.map_eq_some_iff.1 hv
    obtain ⟨rfl, rfl⟩ := Prod.mk.inj he
    obtain ⟨cs, rfl, hl, hc⟩ := (hX : ∃ cs, x = .agg cs ∧ l.length = cs.size ∧ ∀ j, j < l.length → OwnC G w (.rs 0 j) (l.getD j .undef) (cs.getD j undef))
    obtain ⟨G', b1, b2, b3, b4, b5⟩ := resCs_ok (X := fun j => cs.getD j undef) (k := 0) h (fun j hj => by rw [Nat.zero_add]; exact hc j hj) hr
    have b3' : l'.length = l.length := b3
    refine ⟨G', b1, b2, ⟨cs, rfl, b3'.trans hl, fun j hj => ?_⟩, b4⟩
    have hj' : j < l.length := by rw [← b3']; exact hj
    have := b5 j hj'
    rw [Nat.zero_add] at this
    exact this
  · rename_i hna
    have ht : ∀ l, v ≠ .tup l := by
      rintro l rfl
      simp [resC, V.outC, V.viewC, pureC] at hv
    rw [ownS_C (fun l e => hna l e) ht] at hX
    obtain ⟨G', b1, b2, b3, b4⟩ := resC_ok h hX hv
    have na' : (∀ l, v' ≠ .agg l) ∧ ∀ l, v' ≠ .tup l := by
      constructor <;> (rintro l rfl; simp [V.outC, V.viewC, pureC] at b4)
    refine ⟨G', b1, b2, ?_, ?_⟩
    · rw [ownS_C na'.1 na'.2]; exact b3
    · have : v'.flat = [v'] := by cases v' <;> first | rfl | exact absurd rfl (na'.1 _)
      rw [this]; simp [b4]
theorem resV_ok {r : ResultVar} {v : V} {s1 : St} (h : Rel G s a w) (hv : resV P s r = some (v, s1)) : ∃ x G', (resR P a r).run P w = .ok x w ∧ Done s.lv G w s1.o v x w G' := by
  unfold resV at hv
  split at hv
  · rename_i t
    obtain ⟨G1, h1, h2, h3, _⟩ := h.take t
    have hb : resW (s.put t (s.t t).view) (s.t t) = some (v, s1.put t (s.t t).view) ∨ True := .inr trivial
    have fz : ∀ (v : V) (u : V) {s : St}, (s.put t u).frz v = (s.frz v).put t u := by
      intro v u s
      unfold St.frz
      have eo : ∀ l n, (s.put t u).ob l n = s.ob l n := fun _ _ => rfl
      split
      · simp only [eo]
        split
        · rename_i lv _ _ _ _ _ _
          unfold St.setOb
          have e1 : (s.put t u).o = s.o := rfl
          rw [e1]
          by_cases hc : lv = s.o.length
          · rw [if_pos hc, if_pos hc]; rfl
          · rw [if_neg hc, if_neg hc]; rfl
        · rfl
      · rfl
    have tre : ∀ (v u : V) {s : St}, tree (s.put t u) v = tree s v := by intro v u s; cases v <;> rfl
    have rc : ∀ {v u v' : V} {s s1 : St}, resC s v = some (v', s1) → resC (s.put t u) v = some (v', s1.put t u) := by
      intro v u v' s s1 hv
      unfold resC at hv ⊢
      split at hv
      · rw [fz, tre]
        obtain ⟨y, hy, he⟩ := Option.map_eq_some_iff.1 hv
        obtain ⟨rfl, rfl⟩ := Prod.mk.inj he
        rw [hy]; rfl
      · split at hv
        · rename_i hp
          obtain ⟨rfl, rfl⟩ := Prod.mk.inj (Option.some.inj hv)
          rw [if_pos hp]
        · cases hv
    have rcs : ∀ {l : List V} {u : V} {l' : List V} {s s1 : St}, resCs s l = some (l', s1) → resCs (s.put t u) l = some (l', s1.put t u) := by
      intro l
      induction l with
      | nil => intro u l' s s1 hv; obtain ⟨rfl, rfl⟩ := Prod.mk.inj (Option.some.inj hv); rfl
      | cons c l ih =>
        intro u l' s s1 hv
        unfold resCs at hv ⊢
        split at hv
        · rename_i c' s2 e1
          split at hv
          · rename_i l2 s3 e2
            obtain ⟨rfl, rfl⟩ := Prod.mk.inj (Option.some.inj hv)
            rw [rc e1]
            dsimp only
            rw [ih e2]
          · cases hv
        · cases hv
    have rw' : resW (s.put t (s.t t).view) (s.t t) = some (v, s1.put t (s.t t).view) := by
      generalize (s.t t).view = u
      unfold resW at hv ⊢
      split at hv
      · obtain ⟨⟨l', s2⟩, hr, he⟩ := Option.map_eq_some_iff.1 hv
        obtain ⟨rfl, rfl⟩ := Prod.mk.inj he
        dsimp only
        rw [rcs hr]; rfl
      · exact rc hv
    obtain ⟨G2, k1, k2, k3, k4⟩ := resW_ok h1 h2 rw'
    exact ⟨_, G2, rfl, Done.of_rel (s1 := s1.put t (s.t t).view) k1 k2.lv (h3.trans k2.fr) (k3.pureβ k4)⟩
  · rename_i c t
    split at hv
    · rename_i u s2 hl
      obtain ⟨x, G', h1, h2, h3, h4⟩ := op_loadS (d := none) (ty := 0) (pos := "") (af := #[]) (gd := none) h hl
      obtain ⟨G2, k1, k2, k3, k4⟩ := resW_ok h2 h3 hv
      have hlv := vLoad_lv hl
      exact ⟨x, G2, load_res h1, Done.of_rel k1 (k2.lv.trans hlv) (h4.trans (by have := k2.fr; rw [hlv] at this; exact this)) (k3.pureβ k4)⟩
    · cases hv
theorem resT_ok {r : ResultVar} {v : V} {s1 : St} (h : Rel G s a w) (hv : resT P s r = some (v, s1)) : ∃ x G', (resR P a r).run P w = .ok x w ∧ Rel G' s1 a w ∧ s1.lv = s.lv ∧ Fr s.lv G w G' w ∧ Tr G'.S G'.β v x ∧ v.flat.all pureC = true := by
  unfold resT at hv
  split at hv
  · rename_i t
    obtain ⟨G', h1, h2, h3, h4, _, _⟩ := h.tree hv
    exact ⟨_, G', rfl, h1, h2.lv, h2.fr, h3, h4⟩
  · rename_i c t
    split at hv
    · rename_i u s2 hl
      split at hv
      · rename_i hp
        obtain ⟨rfl, rfl⟩ := Prod.mk.inj (Option.some.inj hv)
        obtain ⟨x, G', h1, h2, h3, h4⟩ := op_loadS (d := none) (ty := 0) (pos := "") (af := #[]) (gd := none) h hl
        exact ⟨x, G', load_res h1, h2, vLoad_lv hl, h4, h3.view, hp⟩
      · cases hv
    · cases hv
theorem resTs_ok : ∀ (rs : List ResultVar) {G : Gh} {s s1 : St} {vs : List V}, Rel G s a w → resTs P s rs = some (vs, s1) → ∃ xs G', (rs.mapM (resR P a)).run P w = .ok xs w ∧ Rel G' s1 a w ∧ s1.lv = s.lv ∧ Fr s.lv G w G' w ∧ vs.length = xs.length ∧
    vs.length = rs.length ∧ ∀ i, i < vs.length → Tr G'.S G'.β (vs.getD i .undef) (xs.getD i Go.undef) ∧ (vs.getD i .undef).flat.all pureC = true := by
  intro rs
  induction rs with
  | nil =>
    intro G s s1 vs h hv
    obtain ⟨rfl, rfl⟩ := Prod.mk.inj (Option.some.inj hv)
    exact ⟨[], G, rfl, h, rfl, Fr.refl _ _ _, rfl, rfl, fun i hi => absurd hi (Nat.not_lt_zero _)⟩
  | cons r rs ih =>
    intro G s s1 vs h hv
    unfold resTs at hv
    split at hv
    · rename_i v s2 h1
      split at hv
      · rename_i vs2 s3 h2
        obtain ⟨rfl, rfl⟩ := Prod.mk.inj (Option.some.inj hv)
        obtain ⟨x, G1, k1, k2, k3, k4, k5, k6⟩ := resT_ok h h1
        obtain ⟨xs, G2, m1, m2, m3, m4, m5, m6, m7⟩ := ih k2 h2
        refine ⟨x :: xs, G2, ?_, m2, m3.trans k3, k4.trans (k3 ▸ m4), by simp [m5], by simp [m6], fun i hi => ?_⟩
        · simp only [List.mapM_cons, Sem.run_bind, k1, m1, Result.andThen_ok, Sem.run_pure]
        · cases i with
          | zero => exact ⟨(k5.mono m4.imm fun l t g hg => hg).pure _ k6, k6⟩
          | succ i => exact m7 i (by simpa using hi)
      · cases hv
    · cases hv
theorem results_many {fn : Func} {xs : List Value} (h : (fn.results.toList.mapM (resR P a)).run P w = .ok xs w) (hl : xs.length = fn.results.toList.length) (hn : xs.length ≠ 1) : (results fn a.tmps).run P w = .ok (.tuple xs.toArray) w := by
  unfold results
  have e : (fn.results.mapM fun r => (match r with | .tmp t => pure (a.tmps.getD t Go.undef) | .cell c t => do loadVar t (← asAddr (a.tmps.getD c Go.undef)) : Sem Value)) = List.toArray <$> fn.results.toList.mapM (resR P a) := by
    rw [Array.mapM_eq_mapM_toList]
    rfl
  simp only [Sem.run_bind]
  have : (fn.results.mapM fun r => (match r with | .tmp t => pure (a.tmps.getD t Go.undef) | .cell c t => do loadVar t (← asAddr (a.tmps.getD c Go.undef)) : Sem Value)).run P w = .ok xs.toArray w := by
    rw [e, map_eq_pure_bind]
    simp only [Sem.run_bind, h, Result.andThen_ok, Sem.run_pure]
  refine (congrArg (fun r : Result (Array Value) => r.andThen fun a w' => Sem.run P (pure (if h : a.size = 1 then a[0] else Value.tuple a)) w') this).trans ?_
  simp [hn]
theorem end_ok {fn : Func} {v : V} {s1 : St} (h : Rel G s a w) (hr : fn.results = s.r) (hv : endV P s = some (v, s1)) : ∃ x G', (results fn a.tmps).run P w = .ok x w ∧ Done s.lv G w s1.o v x w G' := by
  unfold endV at hv
  split at hv
  · rename_i r hrl
    obtain ⟨x, G', h1, h2⟩ := resV_ok h hv
    exact ⟨x, G', results_one (by rw [hr]; exact hrl) h1, h2⟩
  · rename_i rs hn
    obtain ⟨y, hy, he⟩ := Option.map_eq_some_iff.1 hv
    obtain ⟨rfl, rfl⟩ := Prod.mk.inj he
    obtain ⟨xs, G', h1, h2, h3, h4, h5, h6, h7⟩ := resTs_ok (a := a) (w := w) s.r.toList h hy
    have hl : xs.length = fn.results.toList.length := by rw [hr, ← h6, h5]
    have hne : xs.length ≠ 1 := by
      intro e
      rw [hl, hr] at e
      obtain ⟨r, hr⟩ := List.length_eq_one_iff.1 e
      exact hn r hr
    refine ⟨_, G', results_many (by rw [hr]; exact h1) hl hne, Done.of_rel h2 h3 h4 fun β => ⟨xs.toArray, rfl, by simpa using h5, fun i hi => ?_⟩⟩
    have := (h7 i hi).1.pure β (h7 i hi).2
    have e : xs.toArray.getD i Go.undef = xs.getD i Go.undef := by simp [Array.getD_eq_getD_getElem?, List.getD_eq_getElem?_getD]
    rw [e]
    exact OwnV.of_tr' this
end Go.Ev
