/- The operations that only compute: places, parts, lengths, loads. -/
import Derived.Test.YtdepiibcopbjlaaEvOps2
namespace Go.Ev
open Go
set_option linter.unusedVariables false
set_option linter.unusedSimpArgs false
variable {P : Program} {G : Gh} {s : St} {a : Act} {w : World} {o : Oper}
variable {d : Option Nat} {ty : TypeId} {pos : String} {af : Array Edge} {gd : Option (Nat × Bool)}

theorem add_eq (b o n : Nat) : (⟨b, o, none⟩ : Addr).add n = ⟨b, o + n, none⟩ := by
  unfold Addr.add
  by_cases h : n = 0
  · subst h; simp
  · simp [h]
theorem isSl_spec {t : TypeId} (h : isSl P t = true) : ∃ e, P.underlying t = some (.slice e) ∧ elemOf P t = e := by
  unfold isSl at h
  split at h
  · rename_i e he
    exact ⟨e, he, by simp [elemOf, he]⟩
  · cases h
theorem isStr_spec {t : TypeId} (h : isStr P t = true) : P.underlying t = some .string := by
  unfold isStr at h
  split at h
  · assumption
  · cases h
theorem Tr.slc_inv {S β} {sz : Nat} {l : List V} {x : Value} (h : Tr S β (.slc false sz l) x) : (l = [] ∧ ∃ a cap, x = .slice a 0 cap) ∨ ∃ (b o cap : Nat) (c : Nat → Nat → Value), x = .slice (some ⟨b, o, none⟩) l.length cap ∧ l.length ≤ cap ∧ (∀ x ∈ l, x.flat.length = sz ∧ x.flat.all pureC = true) ∧
      (∀ i j, i < l.length → j < sz → S b (o + i * sz + j) = some (c i j)) ∧ ∀ i j, i < l.length → j < sz → Tr S β ((l.getD i .undef).flat.getD j .undef) (c i j) := by
  cases h with
  | slc0 _ a cap => exact .inl ⟨rfl, a, cap, rfl⟩
  | slc _ _ b o cap c hc hs hS hT => exact .inr ⟨b, o, cap, c, rfl, hc, hs, hS, hT⟩
theorem see_slc {x : Operand} {own : Bool} {sz : Nat} {l : List V} {t : TypeId} (h : s.see P t x = .slc own sz l) : own = false := by
  have h1 := see_view s P t x
  rw [h] at h1
  cases own
  · rfl
  · cases h1

/-! ### len, min, max -/
theorem run_builtin {b : Builtin} {args : Array Operand} {tys : Array TypeId} {x : Value} {w' : World} (h : (builtin b tys ty (args.map fun | .const _ => true | _ => false) (args.map a.eval)).run P w = .ok (.value x) w') :
    (execOp a.eval ⟨d, .call { callee := .builtin b, args := args, argTypes := tys }, ty, pos, af, gd⟩).run P w = .ok (.value x) w' := by
  simp only [execOp, resolve, Sem.run_bind, Sem.run_pure, Result.andThen_ok, invoke]
  exact h
theorem op_len {x : Operand} {t : TypeId} {v : V} (h : Rel G s a w) (hv : lenV P s t (s.see P t x) = some v) : OpOk P ⟨d, .call { callee := .builtin .len, args := #[x], argTypes := #[t] }, ty, pos, af, gd⟩ G s a w v s := by
  have h1 := h.see P t x
  unfold lenV at hv
  split at hv
  · rename_i own sz l hs
    split at hv
    · rename_i ht
      obtain rfl := Option.some.inj hv
      obtain ⟨e, he, _⟩ := isSl_spec ht
      rw [hs] at h1
      obtain rfl := see_slc hs
      refine OpOk.pure h (x := .int .i64 l.length) (run_builtin ?_) (Tr.int _ _) rfl (fun l e => by cases e)
      have : ∃ A c, a.eval x = .slice A l.length c := by
        rcases h1.slc_inv with ⟨rfl, _, _, h2⟩ | ⟨b, o, cap, c, h2, _⟩
        · exact ⟨_, _, h2⟩
        · exact ⟨_, _, h2⟩
      obtain ⟨A, c, hx⟩ := this
      simp [builtin, Builtin.len_, hx, run_underlying he, goInt]
    · cases hv
  · rename_i b hs
    split at hv
    · rename_i ht
      obtain rfl := Option.some.inj hv
      rw [hs] at h1
      refine OpOk.pure h (x := .int .i64 b.size) (run_builtin ?_) (Tr.int _ _) rfl (fun l e => by cases e)
      simp [builtin, Builtin.len_, h1.str_inv, run_underlying (isStr_spec ht), goInt]
    · cases hv
  · rename_i lv u n hs
    split at hv
    · rename_i ht
      obtain rfl := Option.some.inj hv
      obtain ⟨e, he, _⟩ := isSl_spec ht
      rw [hs] at h1
      refine OpOk.pure h (x := .int .i64 n) (run_builtin ?_) (Tr.int _ _) rfl (fun l e => by cases e)
      have : ∃ A c, a.eval x = .slice A n c := by
        generalize a.eval x = y at h1
        cases h1
        exact ⟨_, _, rfl⟩
      obtain ⟨A, c, hx⟩ := this
      simp [builtin, Builtin.len_, hx, run_underlying he, goInt]
    · cases hv
  · rename_i lv u hs
    split at hv
    · rename_i es ht ho
      obtain rfl := Option.some.inj hv
      rw [hs] at h1
      obtain ⟨g, hg, hω, en, ck, hb, hl, _⟩ := h.obj lv u _ ho
      have : a.eval x = .map (some g) := by
        generalize a.eval x = y at h1
        cases h1
        rename_i g' hg'
        rw [hg] at hg'
        cases hg'
        rfl
      refine OpOk.pure h (x := .int .i64 es.length) (run_builtin ?_) (Tr.int _ _) rfl (fun l e => by cases e)
      simp [builtin, Builtin.len_, this, run_underlying ht, goInt, getObj, Sem.run, hb, hl]
    · cases hv
  · cases hv
theorem op_min {x y : Operand} {tys : Array TypeId} {v : V} (h : Rel G s a w) (hv : min2V (s.see P 0 x) (s.see P 0 y) = some v) : OpOk P ⟨d, .call { callee := .builtin .min, args := #[x, y], argTypes := tys }, ty, pos, af, gd⟩ G s a w v s := by
  have h1 := h.see P 0 x
  have h2 := h.see P 0 y
  unfold min2V at hv
  split at hv
  · rename_i k n k' m hx hy
    split at hv
    · rename_i hk; subst hk
      obtain rfl := Option.some.inj hv
      rw [hx] at h1
      rw [hy] at h2
      refine OpOk.pure h (x := .int k (if m < n then m else n)) (run_builtin ?_) (Tr.int _ _) rfl (fun l e => by cases e)
      simp [builtin, Builtin.min_, h1.int_inv, h2.int_inv, Builtin.min2]
    · cases hv
  · cases hv
theorem op_max {x y : Operand} {tys : Array TypeId} {v : V} (h : Rel G s a w) (hv : max2V (s.see P 0 x) (s.see P 0 y) = some v) : OpOk P ⟨d, .call { callee := .builtin .max, args := #[x, y], argTypes := tys }, ty, pos, af, gd⟩ G s a w v s := by
  have h1 := h.see P 0 x
  have h2 := h.see P 0 y
  unfold max2V at hv
  split at hv
  · rename_i k n k' m hx hy
    split at hv
    · rename_i hk; subst hk
      obtain rfl := Option.some.inj hv
      rw [hx] at h1
      rw [hy] at h2
      refine OpOk.pure h (x := .int k (if m > n then m else n)) (run_builtin ?_) (Tr.int _ _) rfl (fun l e => by cases e)
      simp [builtin, Builtin.max_, h1.int_inv, h2.int_inv, Builtin.max2]
    · cases hv
  · cases hv

/-! ### places -/
theorem op_fieldAddr {x : Operand} {t : TypeId} {f : Nat} {v : V} (h : Rel G s a w) (hv : vFieldAddr P t f (s.see P 0 x) = some v) : OpOk P ⟨d, .fieldAddr t x f, ty, pos, af, gd⟩ G s a w v s := by
  have h1 := h.see P 0 x
  unfold vFieldAddr at hv
  split at hv
  · rename_i fs hu
    split at hv
    · rename_i fd hf
      split at hv
      · rename_i hz
        generalize s.see P 0 x = u at hv h1
        split at hv
        · rename_i lv t' off
          obtain rfl := Option.some.inj hv
          cases h1' : a.eval x <;> rw [h1'] at h1 <;> cases h1
          rename_i g hg
          refine OpOk.pure h (x := .pointer (some ⟨g, off + fd.offset, none⟩)) ?_ (Tr.ptr _ _ _ _ hg) rfl (fun l e => by cases e)
          simp only [execOp]
          refine run_val ?_
          simp [Instr.fieldAt, run_underlying hu, hf, h1', Instr.sureAddr, fieldPlace, run_sizeOf' hz, hz, add_eq]
        · rename_i l
          obtain rfl := Option.some.inj hv
          cases h1' : a.eval x <;> rw [h1'] at h1 <;> cases h1
          rename_i b o c hp hS hT
          refine OpOk.pure h (x := .pointer (some ⟨b, o + fd.offset, none⟩)) ?_ (Tr.imp _ _ _ (fun j => c (fd.offset + j)) (by rw [List.all_eq_true] at hp ⊢; exact fun x hx => hp x (List.mem_of_mem_drop hx)) (fun j hj => ?_) (fun j hj => ?_)) rfl (fun l e => by cases e)
          · simp only [execOp]
            refine run_val ?_
            simp [Instr.fieldAt, run_underlying hu, hf, h1', Instr.sureAddr, fieldPlace, run_sizeOf' hz, hz, add_eq]
          · rw [Nat.add_assoc]; exact hS _ (by simp at hj; omega)
          · have := hT (fd.offset + j) (by simp at hj; omega)
            simpa [List.getD_eq_getElem?_getD] using this
        · cases hv
      · cases hv
    · cases hv
  · cases hv
theorem OwnC.of_tr {p : Pl} {v : V} {x : Value} (h : Tr G.S G.β v x) : OwnC G w p v x := OwnC.of_view h (by rintro sz l rfl; cases h)
theorem OwnV.of_tr' {p : Nat → Pl} {v : V} {x : Value} (h : Tr G.S G.β v x) : OwnV G w p v x := by
  cases v
  case agg l =>
    obtain ⟨cs, rfl, hl, hT⟩ := h.agg_inv
    exact ⟨cs, rfl, hl, fun j hj => OwnC.of_tr (hT j hj)⟩
  all_goals exact (OwnC.of_tr (w := w) (p := p 0) h)
theorem OwnS.of_tr' {p : Nat → Nat → Pl} {v : V} {x : Value} (h : Tr G.S G.β v x) : OwnS G w p v x := by
  cases v
  case tup l => cases h
  all_goals exact (OwnV.of_tr' (w := w) (p := p 0) h)
theorem OpOk.tr (h : Rel G s a w) {v : V} {x : Value} (hr : (execOp a.eval o).run P w = .ok (.value x) w) (hT : Tr G.S G.β v x) : OpOk P o G s a w v s :=
  ⟨x, w, G, hr, h, OwnS.of_tr' hT, Fr.refl _ _ _⟩
theorem Tr.imp_inv {S β} {l : List V} {x : Value} (h : Tr S β (.imp l) x) : ∃ (b o : Nat) (c : Nat → Value), x = .pointer (some ⟨b, o, none⟩) ∧ l.all pureC = true ∧ (∀ j, j < l.length → S b (o + j) = some (c j)) ∧ ∀ j, j < l.length → Tr S β (l.getD j .undef) (c j) := by
  cases h with
  | imp _ b o c hp hS hT => exact ⟨b, o, c, rfl, hp, hS, hT⟩
theorem Tr.ptr_inv {S β} {lv t off : Nat} {x : Value} (h : Tr S β (.ptr lv t off) x) : ∃ g, β lv t = some g ∧ x = .pointer (some ⟨g, off, none⟩) := by
  cases h with
  | ptr _ _ _ g hg => exact ⟨g, hg, rfl⟩
theorem Tr.eptr_inv {S β} {lv t i sz : Nat} {x : Value} (h : Tr S β (.eptr lv t i sz) x) : ∃ g, β lv t = some g ∧ x = .pointer (some ⟨g, i * sz, none⟩) := by
  cases h with
  | eptr _ _ _ g _ hg => exact ⟨g, hg, rfl⟩
theorem Tr.aref_inv {S β} {lv t n : Nat} {x : Value} (h : Tr S β (.aref lv t n) x) : ∃ g cap, β lv t = some g ∧ n ≤ cap ∧ x = .slice (some ⟨g, 0, none⟩) n cap := by
  cases h with
  | aref _ _ _ g cap hg hc => exact ⟨g, cap, hg, hc, rfl⟩
theorem Tr.mp_inv {S β} {lv t : Nat} {x : Value} (h : Tr S β (.mp lv t) x) : ∃ g, β lv t = some g ∧ x = .map (some g) := by
  cases h with
  | mp _ _ g hg => exact ⟨g, hg, rfl⟩
theorem Tr.fn_inv {S β} {f : Nat} {c : List V} {x : Value} (h : Tr S β (.fn f c) x) : ∃ cs, x = .func (.func f) #[] cs ∧ c.length = cs.size ∧ ∀ i, i < c.length → Tr S β (c.getD i .undef) (cs.getD i Go.undef) := by
  cases h with
  | fn _ _ cs hl hT => exact ⟨cs, rfl, hl, hT⟩

/-! ### parts -/
theorem getD_array_of {cs : Array Value} {j : Nat} (h : j < cs.size) : cs.getD j Go.undef = cs[j] := by simp [Array.getD, h]
theorem part_run {t : TypeId} (hz : szOf P t ≠ 0) {cs : Array Value} {off : Nat} (hb : off + szOf P t ≤ cs.size) (w : World) :
    ∃ x, (part t cs off).run P w = .ok x w ∧ x = if isAgg P t = true then .agg (cs.extract off (off + szOf P t)) else cs.getD off Go.undef := by
  obtain ⟨i, d, h1, h2, h3, h4⟩ := szOf_ne hz
  unfold part
  have hlt : off < cs.size := by omega
  simp only [Sem.run_bind, run_isAgg' (P := P) (t := t) (by rw [h2]; rfl), Result.andThen_ok]
  by_cases ha : isAgg P t = true
  · simp only [ha, if_true, Sem.run_bind, run_sizeOf' hz, Result.andThen_ok, Sem.run_pure]
    exact ⟨_, rfl, rfl⟩
  · simp only [ha, Bool.false_eq_true, if_false, Array.getElem?_eq_getElem hlt, Sem.run_pure]
    exact ⟨_, rfl, (getD_array_of hlt).symm⟩
theorem pack_tr {S β} {l : List V} {c : Nat → Value} {ag : Bool} {x : Value} {n : Nat} (hn : 0 < n) (hl : l.length = n) (hT : ∀ j, j < n → Tr S β (l.getD j .undef) (c j)) (hx : x = if ag = true then .agg ((List.range n).map c).toArray else c 0) : Tr S β (pack ag l) x := by
  subst hx
  cases ag
  · have := hT 0 hn
    simp only [pack, Bool.false_eq_true, if_false]
    cases l with
    | nil => simp at hl; omega
    | cons v l => exact this
  · simp only [pack, if_true]
    refine .agg _ _ (by simp [hl]) fun i hi => ?_
    have hi' : i < n := by omega
    have : ((List.range n).map c).toArray.getD i Go.undef = c i := by
      simp [Array.getD, hi']
    rw [this]
    exact hT i hi'
theorem extract_eq {cs : Array Value} {off n : Nat} (h : off + n ≤ cs.size) : cs.extract off (off + n) = ((List.range n).map fun j => cs.getD (off + j) Go.undef).toArray := by
  apply Array.ext
  · simp; omega
  · intro i h1 h2
    have h3 : i < n := by simpa using h2
    have h4 : off + i < cs.size := by omega
    simp [Array.getD, h4]
theorem getD_drop_take (l : List V) (off n j : Nat) (h : j < n) : ((l.drop off).take n).getD j .undef = l.getD (off + j) .undef := by
  simp [List.getD_eq_getElem?_getD, List.getElem?_take, h]
theorem op_field {x : Operand} {t : TypeId} {f : Nat} {v : V} (h : Rel G s a w) (hv : vField P s t f (s.see P t x) = some v) : OpOk P ⟨d, .field t x f, ty, pos, af, gd⟩ G s a w v s := by
  have h1 := h.see P t x
  unfold vField at hv
  split at hv
  · rename_i fs hu
    generalize s.see P t x = u at hv h1
    split at hv
    · rename_i fd l hf
      split at hv
      · rename_i hz
        obtain rfl := Option.some.inj hv
        obtain ⟨cs, hx, hl, hT⟩ := h1.agg_inv
        obtain ⟨y, hy, hy'⟩ := part_run (P := P) hz.2 (cs := cs) (off := fd.offset) (by omega) w
        refine OpOk.tr h (x := y) ?_ (pack_tr (c := fun j => cs.getD (fd.offset + j) Go.undef) (n := szOf P fd.type) (by omega) (by simp; omega) (fun j hj => ?_) ?_)
        · simp only [execOp]
          refine run_val ?_
          simp [Instr.field, run_underlying hu, hf, hx, asAgg, hy]
        · rw [getD_drop_take _ _ _ _ hj]
          exact hT _ (by omega)
        · rw [hy', extract_eq (by omega)]
          rfl
      · cases hv
    · cases hv
  · cases hv
theorem elemSz_ne {t e : TypeId} (hu : P.underlying t = some (.slice e)) : elemSz P t = szOf P e := by simp [elemSz, elemOf, hu]
theorem op_indexAddr {x i : Operand} {t : TypeId} {v : V} (h : Rel G s a w) (hv : vIndexAddr P t (s.see P t x) (s.see P 0 i) = some v) : OpOk P ⟨d, .indexAddr t x i, ty, pos, af, gd⟩ G s a w v s := by
  have h1 := h.see P t x
  have h2 := h.see P 0 i
  have h0 : ∀ own sz l, s.see P t x = .slc own sz l → own = false := fun own sz l e => see_slc e
  unfold vIndexAddr at hv
  generalize s.see P t x = u at hv h1 h0
  generalize s.see P 0 i = m at hv h2
  split at hv
  · rename_i own sz l k n
    split at hv
    · rename_i hc
      split at hv
      · rename_i hb
        obtain rfl := Option.some.inj hv
        obtain rfl := h0 _ _ _ rfl
        obtain ⟨e, hu, he⟩ := isSl_spec hc.1
        rcases h1.slc_inv with ⟨rfl, _⟩ | ⟨b, o, cap, c, hx, hcap, hs, hS, hT⟩
        · simp at hb; omega
        · have hi := h2.int_inv
          have hn : n.toNat < l.length := by omega
          have hz : szOf P e ≠ 0 := by rw [← elemSz_ne hu, ← hc.2.1]; exact hc.2.2
          have hsz : sz = szOf P e := by rw [hc.2.1, elemSz_ne hu]
          have hfl : (l.getD n.toNat (dflt P t)).flat = (l.getD n.toNat .undef).flat := by
            simp [List.getD_eq_getElem?_getD, List.getElem?_eq_getElem hn]
          have hlen : (l.getD n.toNat .undef).flat.length = sz ∧ (l.getD n.toNat .undef).flat.all pureC = true := by
            refine hs _ ?_
            rw [List.getD_eq_getElem?_getD, List.getElem?_eq_getElem hn]
            exact List.getElem_mem hn
          refine OpOk.tr h (x := .pointer (some ⟨b, o + n.toNat * szOf P e, none⟩)) ?_ ?_
          · simp only [execOp]
            refine run_val ?_
            simp [Instr.indexAt, hi, asIntOf, run_underlying hu, hx, hb.1, hb.2, run_sizeOf' hz, add_eq]
          · rw [hfl]
            refine Tr.imp _ _ _ (c n.toNat) hlen.2 (fun j hj => ?_) (fun j hj => ?_)
            · rw [← hsz]; exact hS _ _ hn (by omega)
            · exact hT _ _ hn (by omega)
      · cases hv
    · cases hv
  · rename_i lv u' m k n
    split at hv
    · rename_i hc
      split at hv
      · rename_i hb
        obtain rfl := Option.some.inj hv
        obtain ⟨e, hu, he⟩ := isSl_spec hc.1
        obtain ⟨g, cap, hg, _, hx⟩ := h1.aref_inv
        have hi := h2.int_inv
        have hz : szOf P e ≠ 0 := by rw [← elemSz_ne hu]; exact hc.2
        refine OpOk.tr h (x := .pointer (some ⟨g, n.toNat * szOf P e, none⟩)) ?_ ?_
        · simp only [execOp]
          refine run_val ?_
          simp [Instr.indexAt, hi, asIntOf, run_underlying hu, hx, hb.1, hb.2, run_sizeOf' hz, add_eq]
        · rw [elemSz_ne hu]; exact Tr.eptr _ _ _ _ _ hg
      · cases hv
    · cases hv
  · rename_i lv u' off k n
    split at hv
    · rename_i m e hu
      split at hv
      · rename_i hz
        split at hv
        · rename_i hb
          obtain rfl := Option.some.inj hv
          obtain ⟨g, hg, hx⟩ := h1.ptr_inv
          have hi := h2.int_inv
          refine OpOk.tr h (x := .pointer (some ⟨g, off + n.toNat * szOf P e, none⟩)) ?_ (Tr.ptr _ _ _ _ hg)
          simp only [execOp]
          refine run_val ?_
          simp [Instr.indexAt, hi, asIntOf, run_underlying hu, hx, hb.1, hb.2, run_sizeOf' hz, add_eq, Instr.sureAddr]
        · cases hv
      · cases hv
    · cases hv
  · cases hv
theorem op_index {x i : Operand} {t : TypeId} {v : V} (h : Rel G s a w) (hv : vIndex P t (s.see P t x) (s.see P 0 i) = some v) : OpOk P ⟨d, .index t x i, ty, pos, af, gd⟩ G s a w v s := by
  have h1 := h.see P t x
  have h2 := h.see P 0 i
  unfold vIndex at hv
  generalize s.see P t x = u at hv h1
  generalize s.see P 0 i = m at hv h2
  split at hv
  · rename_i b k n
    split at hv
    · rename_i hc
      split at hv
      · rename_i hb
        obtain rfl := Option.some.inj hv
        have hu := isStr_spec hc
        have hi := h2.int_inv
        have hx := h1.str_inv
        have hn : n.toNat < b.size := by omega
        refine OpOk.tr h (x := .int .u8 (bt b n)) ?_ (Tr.int _ _)
        simp only [execOp]
        refine run_val ?_
        simp [Instr.index, hi, asIntOf, run_underlying hu, hx, hb.1, hn, bt]
      · cases hv
    · cases hv
  · rename_i l k n
    split at hv
    · rename_i m e hu
      split at hv
      · rename_i hz
        split at hv
        · rename_i hb
          obtain rfl := Option.some.inj hv
          obtain ⟨cs, hx, hl, hT⟩ := h1.agg_inv
          have hi := h2.int_inv
          have hle : n.toNat * szOf P e + szOf P e ≤ cs.size := by
            rw [← hl, hz.2]
            have : n.toNat + 1 ≤ m := by omega
            calc n.toNat * szOf P e + szOf P e = (n.toNat + 1) * szOf P e := by rw [Nat.succ_mul]
              _ ≤ m * szOf P e := Nat.mul_le_mul_right _ this
          obtain ⟨y, hy, hy'⟩ := part_run (P := P) hz.1 hle w
          refine OpOk.tr h (x := y) ?_ (pack_tr (c := fun j => cs.getD (n.toNat * szOf P e + j) Go.undef) (n := szOf P e) (by omega) (by simp; omega) (fun j hj => ?_) ?_)
          · simp only [execOp]
            refine run_val ?_
            simp [Instr.index, hi, asIntOf, run_underlying hu, hx, hb.1, hb.2, run_sizeOf' hz.1, hy]
          · rw [getD_drop_take _ _ _ _ hj]
            exact hT _ (by omega)
          · rw [hy', extract_eq hle]
            rfl
        · cases hv
      · cases hv
    · cases hv
  · cases hv
end Go.Ev
