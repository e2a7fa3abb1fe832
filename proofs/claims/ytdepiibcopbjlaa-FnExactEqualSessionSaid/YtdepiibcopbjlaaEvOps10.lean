/- Parts of a tuple; structs and arrays. -/
import Derived.Test.YtdepiibcopbjlaaEvOps9
namespace Go.Ev
open Go
set_option linter.unusedVariables false
set_option linter.unusedSimpArgs false
variable {P : Program} {G : Gh} {s : St} {a : Act} {w : World} {o : Oper}
variable {d : Option Nat} {ty : TypeId} {pos : String} {af : Array Edge} {gd : Option (Nat × Bool)}

def extF (lv u i : Nat) : Pl → Pl
  | .tm l t c j => if l = lv ∧ t = u ∧ c = i then .rs 0 j else .tm l t c j
  | p => p
theorem OwnV.tup {p : Nat → Pl} {m : List V} {x : Value} (h : OwnV G w p (.tup m) x) : False := OwnC.tup (w := w) (p := p 0) h
theorem op_extract {u i : Nat} {l : List V} {v : V} (h : Rel G s a w) (hu : s.t u = .tup l) (hv : l[i]? = some v) : OpOk P ⟨d, .extract (.tmp u) i, ty, pos, af, gd⟩ G s a w v (s.put u (.tup (l.set i .undef))) := by
  have h1 := h.slot u
  rw [hu] at h1
  obtain ⟨vs, hx, hl, hT⟩ := h1
  have hi : i < l.length := by
    rcases Nat.lt_or_ge i l.length with h' | h'
    · exact h'
    · rw [List.getElem?_eq_none h'] at hv; cases hv
  have hiv : i < vs.size := by omega
  have hvi : l.getD i .undef = v := by rw [List.getD_eq_getElem?_getD, hv]; rfl
  have h2 := hT i hi
  rw [hvi] at h2
  have h3 : OwnV (G.ren (extF s.lv u i)) w (Pl.rs 0) v (vs.getD i Go.undef) := h2.ren _ fun j => by simp [extF]
  refine ⟨vs.getD i Go.undef, w, G.ren (extF s.lv u i), ?_, ⟨h.size, h.defers, fun t => ?_, fun lv t ob hob => ?_, h.dom, h.imm, ren_lim h.lim⟩, OwnV.toS h3 (fun m e => by rw [e] at h3; exact h3.tup), ren_fr fun p => ?_⟩
  · simp only [execOp, Act.eval, hx]
    refine run_val ?_
    simp [Instr.extract, hiv, Array.getD]
  · by_cases ht : t = u
    · subst ht
      have : (s.put t (.tup (l.set i .undef))).t t = .tup (l.set i .undef) := by simp [St.put, upd]
      rw [this]
      refine ⟨vs, hx, by simpa using hl, fun k hk => ?_⟩
      rw [List.length_set] at hk
      by_cases hki : k = i
      · subst hki
        have : (l.set k .undef).getD k .undef = .undef := by simp [List.getD_eq_getElem?_getD, hk]
        rw [this]
        exact Tr.undef _
      · have : (l.set i .undef).getD k .undef = l.getD k .undef := by simp [List.getD_eq_getElem?_getD, List.getElem?_set, Ne.symm hki]
        rw [this]
        exact (hT k hk).ren _ fun j => by
          have : (St.put s t (.tup (l.set i .undef))).lv = s.lv := rfl
          simp [extF, hki, this]
    · have : (s.put u (.tup (l.set i .undef))).t t = s.t t := by simp [St.put, upd, ht]
      rw [this]
      exact (h.slot t).ren _ fun c j => by
        have : (St.put s u (.tup (l.set i .undef))).lv = s.lv := rfl
        simp [extF, ht, this]
  · obtain ⟨g, k1, k2, k3⟩ := h.obj lv t ob hob
    exact ⟨g, k1, by rw [ren_ω k2]; rfl, k3.ren _ fun j => rfl⟩
  · cases p with
    | tm l' t c j =>
      by_cases hh : l' = s.lv ∧ t = u ∧ c = i
      · exact .inr (by rw [hh.1]; exact Nat.le_refl _)
      · exact .inl (by simp [extF, hh])
    | _ => exact .inl rfl

theorem getD_fold {off : Nat} {v cs : Array Value} (h : off + v.size ≤ cs.size) : (v.zipIdx.foldl (fun cs (x : Value × Nat) => cs.setIfInBounds (off + x.2) x.1) cs).size = cs.size ∧ ∀ k, (v.zipIdx.foldl (fun cs (x : Value × Nat) => cs.setIfInBounds (off + x.2) x.1) cs).getD k Go.undef = if off ≤ k ∧ k < off + v.size then v.getD (k - off) Go.undef else cs.getD k Go.undef := by
  have e : v.zipIdx.foldl (fun cs (x : Value × Nat) => cs.setIfInBounds (off + x.2) x.1) cs = (v.toList.zipIdx 0).foldl (fun cs (x : Value × Nat) => cs.setIfInBounds (off + x.2) x.1) cs := by
    rw [← Array.foldl_toList, Array.toList_zipIdx]
  rw [e]
  obtain ⟨h1, h2⟩ := Great.foldl_set off v.toList 0 cs
  refine ⟨h1, fun k => ?_⟩
  rw [Array.getD_eq_getD_getElem?, h2 k, Nat.add_zero, Array.length_toList]
  by_cases hk : off ≤ k ∧ k < off + v.size
  · rw [if_pos ⟨hk.1, hk.2, by omega⟩, if_pos hk]
    simp [Array.getD_eq_getD_getElem?]
  · rw [if_neg (fun e => hk ⟨e.1, e.2.1⟩), if_neg hk]
    simp [Array.getD_eq_getD_getElem?]
def accF (off : Nat) : Pl → Pl
  | .rs 0 j => .rs 1 (off + j)
  | p => p
theorem Rel.ren_rs (h : Rel G s a w) (f : Pl → Pl) (hf : ∀ p, (∀ c j, p ≠ .rs c j) → f p = p) : Rel (G.ren f) s a w ∧ Fr s.lv G w (G.ren f) w := by
  refine ⟨⟨h.size, h.defers, fun t => (h.slot t).ren _ fun c j => hf _ (fun _ _ e => by cases e), fun lv t ob hob => ?_, h.dom, h.imm, ren_lim h.lim⟩, ren_fr fun p => ?_⟩
  · obtain ⟨g, k1, k2, k3⟩ := h.obj lv t ob hob
    exact ⟨g, k1, by rw [ren_ω k2, hf _ (fun _ _ e => by cases e)], k3.ren _ fun j => hf _ (fun _ _ e => by cases e)⟩
  · cases p with
    | rs c j => exact .inr trivial
    | _ => exact .inl (hf _ (fun _ _ e => by cases e))
theorem buildF_spec (fs : Array Field) (places : List (Nat × Nat)) (hp : ∀ (i : Nat) (f : Field), fs[i]? = some f → places.toArray[i]? = some (f.offset, szOf P f.type)) : ∀ (ps : List (Nat × Operand)) {G : Gh} {s s1 : St} {cs cs1 : List V} {ccs : Array Value}, Rel G s a w → cs.length = ccs.size →
    (∀ j, j < cs.length → OwnC G w (.rs 1 j) (cs.getD j .undef) (ccs.getD j Go.undef)) → buildF P fs s cs ps = some (cs1, s1) →
    ∃ ccs1 G1, Instr.fill (places.toArray[·]?) ccs (ps.map fun p => (p.1, a.eval p.2)) = some ccs1 ∧ Rel G1 s1 a w ∧ Fr s.lv G w G1 w ∧ s1.lv = s.lv ∧ cs1.length = ccs1.size ∧ ∀ j, j < cs1.length → OwnC G1 w (.rs 1 j) (cs1.getD j .undef) (ccs1.getD j Go.undef) := by
  intro ps
  induction ps with
  | nil =>
    intro G s s1 cs cs1 ccs h hl hc hb
    simp only [buildF, Option.some.injEq, Prod.mk.injEq] at hb
    obtain ⟨rfl, rfl⟩ := hb
    exact ⟨ccs, G, rfl, h, Fr.refl _ _ _, rfl, hl, hc⟩
  | cons p ps ih =>
    intro G s s1 cs cs1 ccs h hl hc hb
    obtain ⟨i, x⟩ := p
    simp only [buildF] at hb
    split at hb
    · rename_i f hf
      split at hb
      · rename_i hsz
        obtain ⟨hn, hle⟩ := hsz
        obtain ⟨G1, h1, h2, h3, h4, h5, h6⟩ := h.all P f.type x
        have hvv : s.all P f.type x ≠ .undef ∧ (∀ l, s.all P f.type x ≠ .tup l) ∧ buildF P fs (s.drop x) (setL cs f.offset (s.all P f.type x).flat) ps = some (cs1, s1) := by
          split at hb
          · cases hb
          · cases hb
          · rename_i h7 h8
            exact ⟨fun e => h8 e, fun l e => h7 l e, hb⟩
        obtain ⟨hu, ht, hb⟩ := hvv
        obtain ⟨q1, q2⟩ := (h2.toV ht).cells hu ht
        obtain ⟨r1, r2⟩ := h1.ren_rs (accF f.offset) (fun p hp => by cases p <;> first | rfl | exact absurd rfl (hp _ _))
        have hcs : (a.eval x).cells.size = szOf P f.type := by omega
        have hf2 := getD_fold (off := f.offset) (v := (a.eval x).cells) (cs := ccs) (by omega)
        obtain ⟨ccs1, G2, k1, k2, k3, k4, k5, k6⟩ := ih (ccs := (a.eval x).cells.zipIdx.foldl (fun cs (x : Value × Nat) => cs.setIfInBounds (f.offset + x.2) x.1) ccs) r1 (by rw [length_setL _ _ _ hle, hf2.1]; exact hl) (fun j hj => by
          rw [length_setL _ _ _ hle] at hj
          rw [getD_setL _ _ _ _ hle, hf2.2 j, hcs, hn]
          by_cases hin : f.offset ≤ j ∧ j < f.offset + szOf P f.type
          · rw [if_pos hin, if_pos hin]
            exact (q2 (j - f.offset) (by omega)).ren _ (by simp only [accF]; congr 1; omega)
          · rw [if_neg hin, if_neg hin]
            refine (hc j hj).mono (p' := .rs 1 j) ⟨fun g i c e => by show G1.S g i = some c; rw [h5]; exact e, fun l t g e => by show G1.β l t = some g; rw [h6]; exact e⟩ (fun g hg => ⟨rfl, fun i => by show G1.S g i = _; rw [h5], ?_⟩)
            rw [ren_ω (h4 _ _ _ hg)]; rfl) hb
        refine ⟨ccs1, G2, ?_, k2, ?_, k4.trans (drop_lv x), k5, k6⟩
        · simp only [List.map_cons, Instr.fill]
          rw [hp i f hf]
          simp only
          have : ((a.eval x).cells.size ≠ szOf P f.type || decide (f.offset + (a.eval x).cells.size > ccs.size)) = false := by
            simp only [ne_eq, hcs, not_true_eq_false, decide_false, Bool.false_or, decide_eq_false_iff_not]
            omega
          rw [if_neg (by rw [this]; simp)]
          exact k1
        · have := k3
          rw [drop_lv] at this r2
          exact (h3.trans r2).trans this
      · cases hb
    · cases hb
theorem places_ok (fs : List Field) (h : fs.all (fun f => szOf P f.type != 0) = true) : ∃ places, fs.mapM (fun f => (P.info? f.type).map fun i => (f.offset, i.size)) = some places ∧ ∀ (i : Nat) (f : Field), fs[i]? = some f → places[i]? = some (f.offset, szOf P f.type) := by
  induction fs with
  | nil => exact ⟨[], rfl, fun i f hf => by cases hf⟩
  | cons f fs ih =>
    simp only [List.all_cons, Bool.and_eq_true, bne_iff_ne, ne_eq] at h
    obtain ⟨places, h1, h2⟩ := ih h.2
    obtain ⟨i, d, g1, g2, g3, g4⟩ := szOf_ne h.1
    refine ⟨(f.offset, i.size) :: places, by simp [List.mapM_cons, g1, h1], fun k f' hf => ?_⟩
    cases k with
    | zero => simp only [List.getElem?_cons_zero, Option.some.injEq] at hf ⊢; subst hf; rw [g3]
    | succ k => exact h2 k f' (by simpa using hf)
def finF : Pl → Pl
  | .rs 1 j => .rs 0 j
  | .rs 0 j => .rs 2 j
  | p => p
theorem op_build {t : TypeId} {fs : Array Field} {z cs1 : List V} {ps : Array (Nat × Operand)} {s1 : St} (h : Rel G s a w) (hu : P.underlying t = some (.struct fs)) (hz : zero P t = some z) (hf : fs.toList.all (fun f => szOf P f.type != 0) = true)
    (hb : buildF P fs s z ps.toList = some (cs1, s1)) : OpOk P ⟨d, .build t ps, ty, pos, af, gd⟩ G s a w (.agg cs1) s1 := by
  obtain ⟨places, p1, p2⟩ := places_ok fs.toList hf
  obtain ⟨zv, z1, z2, z3, _⟩ := zero_spec hz
  obtain ⟨ccs1, G1, k1, k2, k3, k4, k5, k6⟩ := buildF_spec (P := P) (w := w) fs places (fun i f hf => by have := p2 i f (by simpa using hf); simpa using this) ps.toList h z2 (fun j hj => agree_tr (z3 j hj) _) hb
  obtain ⟨r1, r2⟩ := k2.ren_rs finF (fun p hp => by cases p <;> first | rfl | exact absurd rfl (hp _ _))
  rw [k4] at r2
  refine ⟨.agg ccs1, w, G1.ren finF, ?_, r1, ⟨ccs1, rfl, k5, fun j hj => (k6 j hj).ren _ rfl⟩, k3.trans r2⟩
  simp only [execOp]
  refine run_val ?_
  obtain ⟨it, hit, hzi⟩ : ∃ it, P.info? t = some it ∧ it.zero = some zv := by
    have := z1 default
    simp only [zeroValue, Sem.run_bind, typeInfo, run_program, Result.andThen_ok] at this
    cases hh : P.info? t with
    | none => simp [hh] at this
    | some it =>
      simp only [hh, Sem.run_pure, Result.andThen_ok] at this
      cases hh2 : it.zero with
      | none => simp [hh2] at this
      | some y => simp [hh2] at this; exact ⟨it, rfl, by rw [hh2, this]⟩
  refine run_build w t _ ccs1 ?_
  unfold Program.built
  simp only [hit, hu, hzi, p1]
  rw [← k1]
  congr 1
  simp
theorem op_buildArray {t e : TypeId} {n : Nat} {z : List V} {ps : Array (Nat × Operand)} {vs : List V} {s1 : St} (h : Rel G s a w) (hu : P.underlying t = some (.array n e)) (hz : zero P t = some z) (hsz : szOf P e ≠ 0) (hzl : z.length = n * szOf P e) (ho : inOrder 0 ps.toList = true) (hn : ps.size = n)
    (ht : St.trees P s (ps.toList.map fun p => (e, p.2)) = some (vs, s1)) (hf : vs.all (fun v => v.flat.length == szOf P e) = true) : OpOk P ⟨d, .build t ps, ty, pos, af, gd⟩ G s a w (.agg (vs.map V.flat).flatten) s1 := by
  obtain ⟨G1, h1, h2, h3, h4, h5, h6⟩ := parts_laid (t := t) (n := n) h hsz ht hf
  obtain ⟨zv, z1, z2, z3, _⟩ := zero_spec hz
  obtain ⟨it, hit, hzi⟩ : ∃ it, P.info? t = some it ∧ it.zero = some zv := by
    have := z1 default
    simp only [zeroValue, Sem.run_bind, typeInfo, run_program, Result.andThen_ok] at this
    cases hh : P.info? t with
    | none => simp [hh] at this
    | some it =>
      simp only [hh, Sem.run_pure, Result.andThen_ok] at this
      cases hh2 : it.zero with
      | none => simp [hh2] at this
      | some y => simp [hh2] at this; exact ⟨it, rfl, by rw [hh2, this]⟩
  obtain ⟨ie, d', g1, g2, g3, g4⟩ := szOf_ne hsz
  have hflat : ∀ (l : List V), (∀ v ∈ l, v.flat.length = szOf P e) → ((l.map V.flat).flatten.length = l.length * szOf P e ∧ ∀ i j, i < l.length → j < szOf P e → (l.map V.flat).flatten.getD (i * szOf P e + j) .undef = (l.getD i .undef).flat.getD j .undef) := by
    intro l
    induction l with
    | nil => intro _; exact ⟨by simp, fun i j hi => absurd hi (Nat.not_lt_zero _)⟩
    | cons v l ih =>
      intro hv
      obtain ⟨i1, i2⟩ := ih (fun v hv' => hv v (List.mem_cons_of_mem _ hv'))
      have hv0 := hv v List.mem_cons_self
      refine ⟨by simp only [List.map_cons, List.flatten_cons, List.length_append, i1, hv0, List.length_cons, Nat.succ_mul]; omega, fun i j hi hj => ?_⟩
      simp only [List.map_cons, List.flatten_cons, List.getD_eq_getElem?_getD]
      cases i with
      | zero => rw [Nat.zero_mul, Nat.zero_add, List.getElem?_append_left (by omega)]; rfl
      | succ i =>
        rw [List.getElem?_append_right (by rw [Nat.succ_mul]; omega), show (i + 1) * szOf P e + j - v.flat.length = i * szOf P e + j by rw [Nat.succ_mul]; omega]
        have := i2 i j (by simpa using hi) hj
        simpa [List.getD_eq_getElem?_getD] using this
  have hall : ∀ v ∈ vs, v.flat.length = szOf P e := fun v hv => by rw [List.all_eq_true] at hf; simpa using hf v hv
  obtain ⟨f1, f2⟩ := hflat vs hall
  refine ⟨.agg ((ps.toList.map fun p => a.eval p.2).flatMap fun v => v.cells.toList).toArray, w, G1, ?_, h1, OwnS.of_tr' (Tr.agg _ _ (by rw [f1]; exact h6.symm) fun k hk => ?_), h2.fr⟩
  · simp only [execOp]
    refine run_val ?_
    refine run_build w t _ _ ?_
    unfold Program.built
    simp only [hit, hu, hzi, g1]
    have hparts : (ps.map fun (i, x) => (i, a.eval x)).toList = ((ps.toList.map fun p => a.eval p.2).zipIdx 0).map fun x => (x.2, x.1) := by
      rw [Array.toList_map]
      exact inOrder_zip a.eval ps.toList 0 ho
    rw [hparts, ← g3]
    exact Great.fill_whole (by omega) _ _ h5 (by rw [← z2, hzl]; simp [hn])
  · rw [f1] at hk
    have hpos : 0 < szOf P e := by omega
    have d1 : k / szOf P e < vs.length := Nat.div_lt_of_lt_mul (by rw [Nat.mul_comm]; exact hk)
    have d2 : k % szOf P e < szOf P e := Nat.mod_lt _ hpos
    have d3 : k / szOf P e * szOf P e + k % szOf P e = k := by have := Nat.div_add_mod k (szOf P e); rw [Nat.mul_comm] at this; exact this
    have e1 := f2 _ _ d1 d2
    rw [d3] at e1
    rw [e1]
    have := h4.2.2 _ _ d1 d2
    rw [d3] at this
    exact this
end Go.Ev
