/- The operations that only compute: places, parts, lengths, loads. The operations that only compute: cuts, conversions, functions, parts of a tuple, loads. Objects that change: variables in memory, rows that are written. -/
import Derived.Laws.BytesString
import Derived.Laws.Tables
import Derived.Laws.CopyRow
import Derived.Test.YtcmnfoombinccaaEvB
set_option linter.unusedVariables false
set_option linter.unusedSimpArgs false
namespace Go.Ev
open Go
set_option linter.unusedVariables false
set_option linter.unusedSimpArgs false
variable {P : Program} {G : Gh} {s : St} {a : Act} {w : World} {o : Oper}
variable {d : Option Nat} {ty : TypeId} {pos : String} {af : Array Edge} {gd : Option (Nat × Bool)}

theorem add_eq (b o n : Nat) : (⟨b, o, none⟩ : Addr).add n = ⟨b, o + n, none⟩ := by
  unfold Addr.add
  by_cases h : n = 0
  · subst h; simp
  · simp [h]
theorem isSl_spec {t : TypeId} (h : isSl P t = true) : ∃ e, P.underlying t = some (.slice e) ∧ elemOf P t = e := by
  unfold isSl at h
  split at h
  · rename_i e he
    exact ⟨e, he, by simp [elemOf, he]⟩
  · cases h
theorem isStr_spec {t : TypeId} (h : isStr P t = true) : P.underlying t = some .string := by
  unfold isStr at h
  split at h
  · assumption
  · cases h
theorem Tr.slc_inv {S β} {sz : Nat} {l : List V} {x : Value} (h : Tr S β (.slc false sz l) x) : (l = [] ∧ ∃ a cap, x = .slice a 0 cap) ∨ ∃ (b o cap : Nat) (c : Nat → Nat → Value), x = .slice (some ⟨b, o, none⟩) l.length cap ∧ l.length ≤ cap ∧ (∀ x ∈ l, x.flat.length = sz ∧ x.flat.all pureC = true) ∧
      (∀ i j, i < l.length → j < sz → S b (o + i * sz + j) = some (c i j)) ∧ ∀ i j, i < l.length → j < sz → Tr S β ((l.getD i .undef).flat.getD j .undef) (c i j) := by
  cases h with
  | slc0 _ a cap => exact .inl ⟨rfl, a, cap, rfl⟩
  | slc _ _ b o cap c hc hs hS hT => exact .inr ⟨b, o, cap, c, rfl, hc, hs, hS, hT⟩
theorem see_slc {x : Operand} {own : Bool} {sz : Nat} {l : List V} {t : TypeId} (h : s.see P t x = .slc own sz l) : own = false := by
  have h1 := see_view s P t x
  rw [h] at h1
  cases own
  · rfl
  · cases h1

/-! ### len, min, max -/
theorem run_builtin {b : Builtin} {args : Array Operand} {tys : Array TypeId} {x : Value} {w' : World} (h : (builtin b tys ty (args.map fun | .const _ => true | _ => false) (args.map a.eval)).run P w = .ok (.value x) w') :
    (execOp a.eval ⟨d, .call { callee := .builtin b, args := args, argTypes := tys }, ty, pos, af, gd⟩).run P w = .ok (.value x) w' := by
  simp only [execOp, resolve, Sem.run_bind, Sem.run_pure, Result.andThen_ok, invoke]
  exact h
theorem op_len {x : Operand} {t : TypeId} {v : V} (h : Rel G s a w) (hv : lenV P s t (s.see P t x) = some v) : OpOk P ⟨d, .call { callee := .builtin .len, args := #[x], argTypes := #[t] }, ty, pos, af, gd⟩ G s a w v s := by
  have h1 := h.see P t x
  unfold lenV at hv
  split at hv
  · rename_i own sz l hs
    split at hv
    · rename_i ht
      obtain rfl := Option.some.inj hv
      obtain ⟨e, he, _⟩ := isSl_spec ht
      rw [hs] at h1
      obtain rfl := see_slc hs
      refine OpOk.pure h (x := .int .i64 l.length) (run_builtin ?_) (Tr.int _ _) rfl (fun l e => by cases e)
      have : ∃ A c, a.eval x = .slice A l.length c := by
        rcases h1.slc_inv with ⟨rfl, _, _, h2⟩ | ⟨b, o, cap, c, h2, _⟩
        · exact ⟨_, _, h2⟩
        · exact ⟨_, _, h2⟩
      obtain ⟨A, c, hx⟩ := this
      simp [builtin, Builtin.len_, hx, run_underlying he, goInt]
    · cases hv
  · rename_i b hs
    split at hv
    · rename_i ht
      obtain rfl := Option.some.inj hv
      rw [hs] at h1
      refine OpOk.pure h (x := .int .i64 b.size) (run_builtin ?_) (Tr.int _ _) rfl (fun l e => by cases e)
      simp [builtin, Builtin.len_, h1.str_inv, run_underlying (isStr_spec ht), goInt]
    · cases hv
  · rename_i lv u n hs
    split at hv
    · rename_i ht
      obtain rfl := Option.some.inj hv
      obtain ⟨e, he, _⟩ := isSl_spec ht
      rw [hs] at h1
      refine OpOk.pure h (x := .int .i64 n) (run_builtin ?_) (Tr.int _ _) rfl (fun l e => by cases e)
      have : ∃ A c, a.eval x = .slice A n c := by
        generalize a.eval x = y at h1
        cases h1
        exact ⟨_, _, rfl⟩
      obtain ⟨A, c, hx⟩ := this
      simp [builtin, Builtin.len_, hx, run_underlying he, goInt]
    · cases hv
  · rename_i lv u n hs
    split at hv
    · rename_i ht
      obtain rfl := Option.some.inj hv
      obtain ⟨e, he, _⟩ := isSl_spec ht
      rw [hs] at h1
      refine OpOk.pure h (x := .int .i64 n) (run_builtin ?_) (Tr.int _ _) rfl (fun l e => by cases e)
      have : ∃ A c, a.eval x = .slice A n c := by
        generalize a.eval x = y at h1
        cases h1
        exact ⟨_, _, rfl⟩
      obtain ⟨A, c, hx⟩ := this
      simp [builtin, Builtin.len_, hx, run_underlying he, goInt]
    · cases hv
  · rename_i lv u n hs
    split at hv
    · rename_i ht
      obtain rfl := Option.some.inj hv
      obtain ⟨e, he, _⟩ := isSl_spec ht
      rw [hs] at h1
      refine OpOk.pure h (x := .int .i64 n) (run_builtin ?_) (Tr.int _ _) rfl (fun l e => by cases e)
      have : ∃ A c, a.eval x = .slice A n c := by
        generalize a.eval x = y at h1
        cases h1
        exact ⟨_, _, rfl⟩
      obtain ⟨A, c, hx⟩ := this
      simp [builtin, Builtin.len_, hx, run_underlying he, goInt]
    · cases hv
  · rename_i lv u hs
    split at hv
    · rename_i es ht ho
      obtain rfl := Option.some.inj hv
      rw [hs] at h1
      obtain ⟨g, hg, hω, en, ck, hb, hl, _⟩ := h.obj lv u _ ho
      have : a.eval x = .map (some g) := by
        generalize a.eval x = y at h1
        cases h1
        rename_i g' hg'
        rw [hg] at hg'
        cases hg'
        rfl
      refine OpOk.pure h (x := .int .i64 es.length) (run_builtin ?_) (Tr.int _ _) rfl (fun l e => by cases e)
      simp [builtin, Builtin.len_, this, run_underlying ht, goInt, getObj, Sem.run, hb, hl]
    · cases hv
  · cases hv
theorem op_min {x y : Operand} {tys : Array TypeId} {v : V} (h : Rel G s a w) (hv : min2V (s.see P 0 x) (s.see P 0 y) = some v) : OpOk P ⟨d, .call { callee := .builtin .min, args := #[x, y], argTypes := tys }, ty, pos, af, gd⟩ G s a w v s := by
  have h1 := h.see P 0 x
  have h2 := h.see P 0 y
  unfold min2V at hv
  split at hv
  · rename_i k n k' m hx hy
    split at hv
    · rename_i hk; subst hk
      obtain rfl := Option.some.inj hv
      rw [hx] at h1
      rw [hy] at h2
      refine OpOk.pure h (x := .int k (if m < n then m else n)) (run_builtin ?_) (Tr.int _ _) rfl (fun l e => by cases e)
      simp [builtin, Builtin.min_, h1.int_inv, h2.int_inv, Builtin.min2]
    · cases hv
  · cases hv
theorem op_max {x y : Operand} {tys : Array TypeId} {v : V} (h : Rel G s a w) (hv : max2V (s.see P 0 x) (s.see P 0 y) = some v) : OpOk P ⟨d, .call { callee := .builtin .max, args := #[x, y], argTypes := tys }, ty, pos, af, gd⟩ G s a w v s := by
  have h1 := h.see P 0 x
  have h2 := h.see P 0 y
  unfold max2V at hv
  split at hv
  · rename_i k n k' m hx hy
    split at hv
    · rename_i hk; subst hk
      obtain rfl := Option.some.inj hv
      rw [hx] at h1
      rw [hy] at h2
      refine OpOk.pure h (x := .int k (if m > n then m else n)) (run_builtin ?_) (Tr.int _ _) rfl (fun l e => by cases e)
      simp [builtin, Builtin.max_, h1.int_inv, h2.int_inv, Builtin.max2]
    · cases hv
  · cases hv

/-! ### places -/
theorem op_fieldAddr {x : Operand} {t : TypeId} {f : Nat} {v : V} (h : Rel G s a w) (hv : vFieldAddr P t f (s.see P 0 x) = some v) : OpOk P ⟨d, .fieldAddr t x f, ty, pos, af, gd⟩ G s a w v s := by
  have h1 := h.see P 0 x
  unfold vFieldAddr at hv
  split at hv
  · rename_i fs hu
    split at hv
    · rename_i fd hf
      split at hv
      · rename_i hz
        generalize s.see P 0 x = u at hv h1
        split at hv
        · rename_i lv t' off
          obtain rfl := Option.some.inj hv
          cases h1' : a.eval x <;> rw [h1'] at h1 <;> cases h1
          rename_i g hg
          refine OpOk.pure h (x := .pointer (some ⟨g, off + fd.offset, none⟩)) ?_ (Tr.ptr _ _ _ _ hg) rfl (fun l e => by cases e)
          simp only [execOp]
          refine run_val ?_
          simp [Instr.fieldAt, run_underlying hu, hf, h1', Instr.sureAddr, fieldPlace, run_sizeOf' hz, hz, add_eq]
        · rename_i l
          obtain rfl := Option.some.inj hv
          cases h1' : a.eval x <;> rw [h1'] at h1 <;> cases h1
          rename_i b o c hp hS hT
          refine OpOk.pure h (x := .pointer (some ⟨b, o + fd.offset, none⟩)) ?_ (Tr.imp _ _ _ (fun j => c (fd.offset + j)) (by rw [List.all_eq_true] at hp ⊢; exact fun x hx => hp x (List.mem_of_mem_drop hx)) (fun j hj => ?_) (fun j hj => ?_)) rfl (fun l e => by cases e)
          · simp only [execOp]
            refine run_val ?_
            simp [Instr.fieldAt, run_underlying hu, hf, h1', Instr.sureAddr, fieldPlace, run_sizeOf' hz, hz, add_eq]
          · rw [Nat.add_assoc]; exact hS _ (by simp at hj; omega)
          · have := hT (fd.offset + j) (by simp at hj; omega)
            simpa [List.getD_eq_getElem?_getD] using this
        · cases hv
      · cases hv
    · cases hv
  · cases hv
theorem OwnC.of_tr {p : Pl} {v : V} {x : Value} (h : Tr G.S G.β v x) : OwnC G w p v x := OwnC.of_view h (by rintro sz l rfl; cases h)
theorem OwnV.of_tr' {p : Nat → Pl} {v : V} {x : Value} (h : Tr G.S G.β v x) : OwnV G w p v x := by
  cases v
  case agg l =>
    obtain ⟨cs, rfl, hl, hT⟩ := h.agg_inv
    exact ⟨cs, rfl, hl, fun j hj => OwnC.of_tr (hT j hj)⟩
  all_goals exact (OwnC.of_tr (w := w) (p := p 0) h)
theorem OwnS.of_tr' {p : Nat → Nat → Pl} {v : V} {x : Value} (h : Tr G.S G.β v x) : OwnS G w p v x := by
  cases v
  case tup l => cases h
  all_goals exact (OwnV.of_tr' (w := w) (p := p 0) h)
theorem OpOk.tr (h : Rel G s a w) {v : V} {x : Value} (hr : (execOp a.eval o).run P w = .ok (.value x) w) (hT : Tr G.S G.β v x) : OpOk P o G s a w v s :=
  ⟨x, w, G, hr, h, OwnS.of_tr' hT, Fr.refl _ _ _⟩
theorem Tr.imp_inv {S β} {l : List V} {x : Value} (h : Tr S β (.imp l) x) : ∃ (b o : Nat) (c : Nat → Value), x = .pointer (some ⟨b, o, none⟩) ∧ l.all pureC = true ∧ (∀ j, j < l.length → S b (o + j) = some (c j)) ∧ ∀ j, j < l.length → Tr S β (l.getD j .undef) (c j) := by
  cases h with
  | imp _ b o c hp hS hT => exact ⟨b, o, c, rfl, hp, hS, hT⟩
theorem Tr.ptr_inv {S β} {lv t off : Nat} {x : Value} (h : Tr S β (.ptr lv t off) x) : ∃ g, β lv t = some g ∧ x = .pointer (some ⟨g, off, none⟩) := by
  cases h with
  | ptr _ _ _ g hg => exact ⟨g, hg, rfl⟩
theorem Tr.eptr_inv {S β} {lv t i sz : Nat} {x : Value} (h : Tr S β (.eptr lv t i sz) x) : ∃ g, β lv t = some g ∧ x = .pointer (some ⟨g, i * sz, none⟩) := by
  cases h with
  | eptr _ _ _ g _ hg => exact ⟨g, hg, rfl⟩
theorem Tr.aref_inv {S β} {lv t n : Nat} {x : Value} (h : Tr S β (.aref lv t n) x) : ∃ g cap, β lv t = some g ∧ n ≤ cap ∧ x = .slice (some ⟨g, 0, none⟩) n cap := by
  cases h with
  | aref _ _ _ g cap hg hc => exact ⟨g, cap, hg, hc, rfl⟩
theorem Tr.bref_inv {S β} {lv t n : Nat} {x : Value} (h : Tr S β (.bref lv t n) x) : ∃ g cap, β lv t = some g ∧ n ≤ cap ∧ x = .slice (some ⟨g, 0, none⟩) n cap := by
  cases h with
  | bref _ _ _ g cap h hc => exact ⟨g, cap, h, hc, rfl⟩
theorem Tr.oref_inv {S β} {lv t n : Nat} {x : Value} (h : Tr S β (.oref lv t n) x) : ∃ g, β lv t = some g ∧ x = .slice (some ⟨g, 0, none⟩) n n := by
  cases h with
  | oref _ _ _ g hg => exact ⟨g, hg, rfl⟩
theorem Tr.mp_inv {S β} {lv t : Nat} {x : Value} (h : Tr S β (.mp lv t) x) : ∃ g, β lv t = some g ∧ x = .map (some g) := by
  cases h with
  | mp _ _ g hg => exact ⟨g, hg, rfl⟩
theorem Tr.fn_inv {S β} {f : Nat} {c : List V} {x : Value} (h : Tr S β (.fn f c) x) : ∃ cs, x = .func (.func f) #[] cs ∧ c.length = cs.size ∧ ∀ i, i < c.length → Tr S β (c.getD i .undef) (cs.getD i Go.undef) := by
  cases h with
  | fn _ _ cs hl hT => exact ⟨cs, rfl, hl, hT⟩

/-! ### parts -/
theorem getD_array_of {cs : Array Value} {j : Nat} (h : j < cs.size) : cs.getD j Go.undef = cs[j] := by simp [Array.getD, h]
theorem part_run {t : TypeId} (hz : szOf P t ≠ 0) {cs : Array Value} {off : Nat} (hb : off + szOf P t ≤ cs.size) (w : World) :
    ∃ x, (part t cs off).run P w = .ok x w ∧ x = if isAgg P t = true then .agg (cs.extract off (off + szOf P t)) else cs.getD off Go.undef := by
  obtain ⟨i, d, h1, h2, h3, h4⟩ := szOf_ne hz
  unfold part
  have hlt : off < cs.size := by omega
  simp only [Sem.run_bind, run_isAgg' (P := P) (t := t) (by rw [h2]; rfl), Result.andThen_ok]
  by_cases ha : isAgg P t = true
  · simp only [ha, if_true, Sem.run_bind, run_sizeOf' hz, Result.andThen_ok, Sem.run_pure]
    exact ⟨_, rfl, rfl⟩
  · simp only [ha, Bool.false_eq_true, if_false, Array.getElem?_eq_getElem hlt, Sem.run_pure]
    exact ⟨_, rfl, (getD_array_of hlt).symm⟩
theorem pack_tr {S β} {l : List V} {c : Nat → Value} {ag : Bool} {x : Value} {n : Nat} (hn : 0 < n) (hl : l.length = n) (hT : ∀ j, j < n → Tr S β (l.getD j .undef) (c j)) (hx : x = if ag = true then .agg ((List.range n).map c).toArray else c 0) : Tr S β (pack ag l) x := by
  subst hx
  cases ag
  · have := hT 0 hn
    simp only [pack, Bool.false_eq_true, if_false]
    cases l with
    | nil => simp at hl; omega
    | cons v l => exact this
  · simp only [pack, if_true]
    refine .agg _ _ (by simp [hl]) fun i hi => ?_
    have hi' : i < n := by omega
    have : ((List.range n).map c).toArray.getD i Go.undef = c i := by
      simp [Array.getD, hi']
    rw [this]
    exact hT i hi'
theorem extract_eq {cs : Array Value} {off n : Nat} (h : off + n ≤ cs.size) : cs.extract off (off + n) = ((List.range n).map fun j => cs.getD (off + j) Go.undef).toArray := by
  apply Array.ext
  · simp; omega
  · intro i h1 h2
    have h3 : i < n := by simpa using h2
    have h4 : off + i < cs.size := by omega
    simp [Array.getD, h4]
theorem getD_drop_take (l : List V) (off n j : Nat) (h : j < n) : ((l.drop off).take n).getD j .undef = l.getD (off + j) .undef := by
  simp [List.getD_eq_getElem?_getD, List.getElem?_take, h]
theorem op_field {x : Operand} {t : TypeId} {f : Nat} {v : V} (h : Rel G s a w) (hv : vField P s t f (s.see P t x) = some v) : OpOk P ⟨d, .field t x f, ty, pos, af, gd⟩ G s a w v s := by
  have h1 := h.see P t x
  unfold vField at hv
  split at hv
  · rename_i fs hu
    generalize s.see P t x = u at hv h1
    split at hv
    · rename_i fd l hf
      split at hv
      · rename_i hz
        obtain rfl := Option.some.inj hv
        obtain ⟨cs, hx, hl, hT⟩ := h1.agg_inv
        obtain ⟨y, hy, hy'⟩ := part_run (P := P) hz.2 (cs := cs) (off := fd.offset) (by omega) w
        refine OpOk.tr h (x := y) ?_ (pack_tr (c := fun j => cs.getD (fd.offset + j) Go.undef) (n := szOf P fd.type) (by omega) (by simp; omega) (fun j hj => ?_) ?_)
        · simp only [execOp]
          refine run_val ?_
          simp [Instr.field, run_underlying hu, hf, hx, asAgg, hy]
        · rw [getD_drop_take _ _ _ _ hj]
          exact hT _ (by omega)
        · rw [hy', extract_eq (by omega)]
          rfl
      · cases hv
    · cases hv
  · cases hv
theorem elemSz_ne {t e : TypeId} (hu : P.underlying t = some (.slice e)) : elemSz P t = szOf P e := by simp [elemSz, elemOf, hu]
theorem op_indexAddr {x i : Operand} {t : TypeId} {v : V} (h : Rel G s a w) (hv : vIndexAddr P t (s.see P t x) (s.see P 0 i) = some v) : OpOk P ⟨d, .indexAddr t x i, ty, pos, af, gd⟩ G s a w v s := by
  have h1 := h.see P t x
  have h2 := h.see P 0 i
  have h0 : ∀ own sz l, s.see P t x = .slc own sz l → own = false := fun own sz l e => see_slc e
  unfold vIndexAddr at hv
  generalize s.see P t x = u at hv h1 h0
  generalize s.see P 0 i = m at hv h2
  split at hv
  · rename_i own sz l k n
    split at hv
    · rename_i hc
      split at hv
      · rename_i hb
        obtain rfl := Option.some.inj hv
        obtain rfl := h0 _ _ _ rfl
        obtain ⟨e, hu, he⟩ := isSl_spec hc.1
        rcases h1.slc_inv with ⟨rfl, _⟩ | ⟨b, o, cap, c, hx, hcap, hs, hS, hT⟩
        · simp at hb; omega
        · have hi := h2.int_inv
          have hn : n.toNat < l.length := by omega
          have hz : szOf P e ≠ 0 := by rw [← elemSz_ne hu, ← hc.2.1]; exact hc.2.2
          have hsz : sz = szOf P e := by rw [hc.2.1, elemSz_ne hu]
          have hfl : (l.getD n.toNat (dflt P t)).flat = (l.getD n.toNat .undef).flat := by
            simp [List.getD_eq_getElem?_getD, List.getElem?_eq_getElem hn]
          have hlen : (l.getD n.toNat .undef).flat.length = sz ∧ (l.getD n.toNat .undef).flat.all pureC = true := by
            refine hs _ ?_
            rw [List.getD_eq_getElem?_getD, List.getElem?_eq_getElem hn]
            exact List.getElem_mem hn
          refine OpOk.tr h (x := .pointer (some ⟨b, o + n.toNat * szOf P e, none⟩)) ?_ ?_
          · simp only [execOp]
            refine run_val ?_
            simp [Instr.indexAt, hi, asIntOf, run_underlying hu, hx, hb.1, hb.2, run_sizeOf' hz, add_eq]
          · rw [hfl]
            refine Tr.imp _ _ _ (c n.toNat) hlen.2 (fun j hj => ?_) (fun j hj => ?_)
            · rw [← hsz]; exact hS _ _ hn (by omega)
            · exact hT _ _ hn (by omega)
      · cases hv
    · cases hv
  · rename_i lv u' m k n
    split at hv
    · rename_i hc
      split at hv
      · rename_i hb
        obtain rfl := Option.some.inj hv
        obtain ⟨e, hu, he⟩ := isSl_spec hc.1
        obtain ⟨g, cap, hg, _, hx⟩ := h1.aref_inv
        have hi := h2.int_inv
        have hz : szOf P e ≠ 0 := by rw [← elemSz_ne hu]; exact hc.2
        refine OpOk.tr h (x := .pointer (some ⟨g, n.toNat * szOf P e, none⟩)) ?_ ?_
        · simp only [execOp]
          refine run_val ?_
          simp [Instr.indexAt, hi, asIntOf, run_underlying hu, hx, hb.1, hb.2, run_sizeOf' hz, add_eq]
        · rw [elemSz_ne hu]; exact Tr.eptr _ _ _ _ _ hg
      · cases hv
    · cases hv
  · rename_i lv u' m k n
    split at hv
    · rename_i hc
      split at hv
      · rename_i hb
        obtain rfl := Option.some.inj hv
        obtain ⟨e, hu, he⟩ := isSl_spec hc.1
        obtain ⟨g, hg, hx⟩ := h1.oref_inv
        have hi := h2.int_inv
        have hz : szOf P e ≠ 0 := by rw [← elemSz_ne hu]; exact hc.2
        refine OpOk.tr h (x := .pointer (some ⟨g, n.toNat * szOf P e, none⟩)) ?_ ?_
        · simp only [execOp]
          refine run_val ?_
          simp [Instr.indexAt, hi, asIntOf, run_underlying hu, hx, hb.1, hb.2, run_sizeOf' hz, add_eq]
        · rw [elemSz_ne hu]; exact Tr.eptr _ _ _ _ _ hg
      · cases hv
    · cases hv
  · rename_i lv u' m k n
    split at hv
    · rename_i hc
      split at hv
      · rename_i hb
        obtain rfl := Option.some.inj hv
        obtain ⟨e, hu, he⟩ := isSl_spec hc.1
        obtain ⟨g, cap, hg, _, hx⟩ := h1.bref_inv
        have hi := h2.int_inv
        have hz : szOf P e ≠ 0 := by rw [← elemSz_ne hu]; exact hc.2
        refine OpOk.tr h (x := .pointer (some ⟨g, n.toNat * szOf P e, none⟩)) ?_ ?_
        · simp only [execOp]
          refine run_val ?_
          simp [Instr.indexAt, hi, asIntOf, run_underlying hu, hx, hb.1, hb.2, run_sizeOf' hz, add_eq]
        · rw [elemSz_ne hu]; exact Tr.ptr _ _ _ _ hg
      · cases hv
    · cases hv
  · rename_i lv u' off k n
    split at hv
    · rename_i m e hu
      split at hv
      · rename_i hz
        split at hv
        · rename_i hb
          obtain rfl := Option.some.inj hv
          obtain ⟨g, hg, hx⟩ := h1.ptr_inv
          have hi := h2.int_inv
          refine OpOk.tr h (x := .pointer (some ⟨g, off + n.toNat * szOf P e, none⟩)) ?_ (Tr.ptr _ _ _ _ hg)
          simp only [execOp]
          refine run_val ?_
          simp [Instr.indexAt, hi, asIntOf, run_underlying hu, hx, hb.1, hb.2, run_sizeOf' hz, add_eq, Instr.sureAddr]
        · cases hv
      · cases hv
    · cases hv
  · cases hv
theorem op_index {x i : Operand} {t : TypeId} {v : V} (h : Rel G s a w) (hv : vIndex P t (s.see P t x) (s.see P 0 i) = some v) : OpOk P ⟨d, .index t x i, ty, pos, af, gd⟩ G s a w v s := by
  have h1 := h.see P t x
  have h2 := h.see P 0 i
  unfold vIndex at hv
  generalize s.see P t x = u at hv h1
  generalize s.see P 0 i = m at hv h2
  split at hv
  · rename_i b k n
    split at hv
    · rename_i hc
      split at hv
      · rename_i hb
        obtain rfl := Option.some.inj hv
        have hu := isStr_spec hc
        have hi := h2.int_inv
        have hx := h1.str_inv
        have hn : n.toNat < b.size := by omega
        refine OpOk.tr h (x := .int .u8 (bt b n)) ?_ (Tr.int _ _)
        simp only [execOp]
        refine run_val ?_
        simp [Instr.index, hi, asIntOf, run_underlying hu, hx, hb.1, hn, bt]
      · cases hv
    · cases hv
  · rename_i l k n
    split at hv
    · rename_i m e hu
      split at hv
      · rename_i hz
        split at hv
        · rename_i hb
          obtain rfl := Option.some.inj hv
          obtain ⟨cs, hx, hl, hT⟩ := h1.agg_inv
          have hi := h2.int_inv
          have hle : n.toNat * szOf P e + szOf P e ≤ cs.size := by
            rw [← hl, hz.2]
            have : n.toNat + 1 ≤ m := by omega
            calc n.toNat * szOf P e + szOf P e = (n.toNat + 1) * szOf P e := by rw [Nat.succ_mul]
              _ ≤ m * szOf P e := Nat.mul_le_mul_right _ this
          obtain ⟨y, hy, hy'⟩ := part_run (P := P) hz.1 hle w
          refine OpOk.tr h (x := y) ?_ (pack_tr (c := fun j => cs.getD (n.toNat * szOf P e + j) Go.undef) (n := szOf P e) (by omega) (by simp; omega) (fun j hj => ?_) ?_)
          · simp only [execOp]
            refine run_val ?_
            simp [Instr.index, hi, asIntOf, run_underlying hu, hx, hb.1, hb.2, run_sizeOf' hz.1, hy]
          · rw [getD_drop_take _ _ _ _ hj]
            exact hT _ (by omega)
          · rw [hy', extract_eq hle]
            rfl
        · cases hv
      · cases hv
    · cases hv
  · cases hv
end Go.Ev
namespace Go.Ev
open Go
set_option linter.unusedVariables false
set_option linter.unusedSimpArgs false
variable {P : Program} {G : Gh} {s : St} {a : Act} {w : World} {o : Oper}
variable {d : Option Nat} {ty : TypeId} {pos : String} {af : Array Edge} {gd : Option (Nat × Bool)}

theorem optInt_inv (h : Rel G s a w) {lo : Option Operand} {l : Option Int} (hl : optInt (lo.map (s.see P 0)) = some l) : (l = none ∧ lo.map a.eval = none) ∨ ∃ k n, l = some n ∧ lo.map a.eval = some (.int k n) := by
  cases lo with
  | none => simp [optInt] at hl; exact .inl ⟨hl.symm, rfl⟩
  | some x =>
    have h1 := h.see P 0 x
    simp only [Option.map_some] at hl
    generalize s.see P 0 x = u at hl h1
    cases u <;> simp only [optInt, reduceCtorEq, Option.some.injEq] at hl
    subst hl
    exact .inr ⟨_, _, rfl, by rw [Option.map_some, h1.int_inv]⟩
theorem bound_run {k : IntKind} {n : Int} {y : Nat} {code : BoundsCode} (h0 : 0 ≤ n) (h1 : n ≤ y) (w : World) : (Instr.sliceBound (.int k n) y code).run P w = .ok n.toNat w := by
  simp [Instr.sliceBound, asIntOf, h0, h1]
theorem bounds_run {lo hi mx : Option Value} {l h m : Option Int} {sl : Bool} {len cap : Nat} (hlo : (l = none ∧ lo = none) ∨ ∃ k n, l = some n ∧ lo = some (.int k n)) (hhi : (h = none ∧ hi = none) ∨ ∃ k n, h = some n ∧ hi = some (.int k n))
    (hmx : (m = none ∧ mx = none) ∨ ∃ k n, m = some n ∧ mx = some (.int k n)) (hc : len ≤ cap) (h0 : 0 ≤ l.getD 0) (h1 : l.getD 0 ≤ h.getD len) (h2 : h.getD len ≤ len) (h3 : ∀ n, m = some n → n = h.getD len ∧ h.isSome = true) (w : World) :
    (Instr.sliceBounds sl len cap lo hi mx).run P w = .ok ((l.getD 0).toNat, (h.getD len).toNat, (m.getD cap).toNat) w := by
  unfold Instr.sliceBounds
  rcases hmx with ⟨rfl, rfl⟩ | ⟨km, nm, rfl, rfl⟩
  · rcases hhi with ⟨rfl, rfl⟩ | ⟨kh, nh, rfl, rfl⟩ <;> rcases hlo with ⟨rfl, rfl⟩ | ⟨kl, nl, rfl, rfl⟩ <;> simp only [Option.getD_some, Option.getD_none] at h0 h1 h2 ⊢
    · simp
    · simp [bound_run h0 h1]
    · simp [bound_run (show (0:Int) ≤ nh by omega) (show nh ≤ (cap:Int) by omega)]
    · simp [bound_run (show (0:Int) ≤ nh by omega) (show nh ≤ (cap:Int) by omega), bound_run h0 (show nl ≤ (nh.toNat : Int) by omega)]
  · obtain ⟨e1, e2⟩ := h3 _ rfl
    rcases hhi with ⟨rfl, rfl⟩ | ⟨kh, nh, rfl, rfl⟩
    · cases e2
    · simp only [Option.getD_some] at e1 h1 h2
      subst e1
      rcases hlo with ⟨rfl, rfl⟩ | ⟨kl, nl, rfl, rfl⟩ <;> simp only [Option.getD_some, Option.getD_none] at h0 h1 ⊢
      · simp [bound_run (show (0:Int) ≤ nm by omega) (show nm ≤ (cap:Int) by omega), bound_run (show (0:Int) ≤ nm by omega) (show nm ≤ (nm.toNat : Int) by omega)]
      · simp [bound_run (show (0:Int) ≤ nm by omega) (show nm ≤ (cap:Int) by omega), bound_run (show (0:Int) ≤ nm by omega) (show nm ≤ (nm.toNat : Int) by omega), bound_run h0 (show nl ≤ (nm.toNat : Int) by omega)]
theorem mem_drop_take {α : Type} {l : List α} {i j : Nat} {x : α} (h : x ∈ (l.take i).drop j) : x ∈ l := List.mem_of_mem_take (List.mem_of_mem_drop h)
theorem op_slice {x : Operand} {lo hi mx : Option Operand} {t : TypeId} {l r m : Option Int} {v : V} (h : Rel G s a w) (hl : optInt (lo.map (s.see P 0)) = some l) (hr : optInt (hi.map (s.see P 0)) = some r) (hm : optInt (mx.map (s.see P 0)) = some m)
    (hv : sliceV P t (s.see P t x) l r m = some v) : OpOk P ⟨d, .slice t x lo hi mx, ty, pos, af, gd⟩ G s a w v s := by
  have h1 := h.see P t x
  have h0 : ∀ own sz l, s.see P t x = .slc own sz l → own = false := fun own sz l e => see_slc e
  have g1 := optInt_inv h hl
  have g2 := optInt_inv h hr
  have g3 := optInt_inv h hm
  unfold sliceV at hv
  generalize s.see P t x = u at hv h1 h0
  split at hv
  · rename_i b
    split at hv
    · cases hv
    · split at hv
      · rename_i hc
        obtain rfl := Option.some.inj hv
        have hu := isStr_spec hc.1
        refine OpOk.tr h (x := .string (b.extract (l.getD 0).toNat (r.getD b.size).toNat)) ?_ (Tr.str _)
        simp only [execOp]
        refine run_val ?_
        rcases g3 with ⟨_, e3⟩ | ⟨_, _, e3, _⟩
        · have := bounds_run (P := P) (sl := false) (len := b.size) (cap := b.size) (m := none) g1 g2 (.inl ⟨rfl, rfl⟩) (Nat.le_refl _) hc.2.1 hc.2.2.1 hc.2.2.2 (fun n e => by cases e) w
          simp only [Instr.sliceAt, Sem.run_bind, run_underlying hu, Result.andThen_ok, Instr.slice, h1.str_inv, e3]
          simp only [Option.isSome_none, Bool.false_eq_true, if_false, Sem.run_bind, Sem.run_pure, Result.andThen_ok]
          rw [this]
          rfl
        · cases e3
      · cases hv
  · rename_i own sz xs
    obtain rfl := h0 _ _ _ rfl
    split at hv
    · rename_i hc
      obtain ⟨hsl, hsz, hnz, hb0, hb1, hb2⟩ := hc
      obtain ⟨e, hu, he⟩ := isSl_spec hsl
      have hz : szOf P e ≠ 0 := by rw [← elemSz_ne hu, ← hsz]; exact hnz
      have hse : sz = szOf P e := by rw [hsz, elemSz_ne hu]
      have hm3 : ∀ n, m = some n → n = r.getD xs.length ∧ r.isSome = true := by
        rintro n rfl
        simp only at hv
        split at hv
        · assumption
        · cases hv
      -- what the machine gives
      have key : ∃ y cap', (Instr.sliceAt t (a.eval x) (lo.map a.eval) (hi.map a.eval) (mx.map a.eval)).run P w = .ok y w ∧ Tr G.S G.β (.slc false sz ((xs.take (r.getD xs.length).toNat).drop (l.getD 0).toNat)) y ∧ (∃ A, y = .slice A ((xs.take (r.getD xs.length).toNat).drop (l.getD 0).toNat).length cap') ∧ (m.isSome = true → cap' = ((xs.take (r.getD xs.length).toNat).drop (l.getD 0).toNat).length) := by
        have hlen : ((xs.take (r.getD xs.length).toNat).drop (l.getD 0).toNat).length = (r.getD xs.length).toNat - (l.getD 0).toNat := by simp; omega
        rcases h1.slc_inv with ⟨rfl, A0, cap0, hx⟩ | ⟨b, o, cap, c, hx, hcap, hs, hS, hT⟩
        · have hb := bounds_run (P := P) (sl := true) (len := 0) (cap := cap0) (m := m) g1 g2 g3 (Nat.zero_le _) hb0 hb1 hb2 hm3 w
          have hn : ([] : List V).length = 0 := rfl
          have e1 : (l.getD 0).toNat = 0 := by omega
          have e2 : (r.getD (([] : List V).length : Int)).toNat = 0 := by omega
          generalize hM : (m.getD ((cap0 : Nat) : Int)).toNat = M at hb
          have e2' : (r.getD ((0 : Nat) : Int)).toNat = 0 := e2
          rw [e1, e2'] at hb
          have hMs : m.isSome = true → M = 0 := by
            intro hms
            cases m with
            | none => cases hms
            | some n =>
              have h7 := (hm3 n rfl).1
              simp only [Option.getD_some] at hM
              have h8 : (r.getD (([] : List V).length : Int)) = r.getD ((0 : Nat) : Int) := rfl
              rw [h8] at h7
              omega
          refine ⟨.slice (A0.map fun a => if M = 0 then a else a.add (0 * szOf P e)) 0 M, M, ?_, ?_, ⟨_, by simp; rfl⟩, fun h => by simp [hMs h]⟩
          · simp only [Instr.sliceAt, Sem.run_bind, run_underlying hu, Result.andThen_ok, Instr.slice, hx, hb, run_sizeOf' hz, Sem.run_pure]
            simp
            cases A0 <;> simp
            split <;> rfl
          · simp only [List.take_nil, List.drop_nil]; exact Tr.slc0 _ _ _
        · have hb := bounds_run (P := P) (sl := true) (len := xs.length) (cap := cap) (m := m) g1 g2 g3 hcap hb0 hb1 hb2 hm3 w
          have hmc : (r.getD xs.length).toNat ≤ (m.getD cap).toNat := by
            cases m with
            | none => simp only [Option.getD_none]; omega
            | some n => have := (hm3 n rfl).1; simp only [Option.getD_some]; omega
          generalize hL : (l.getD 0).toNat = L at *
          generalize hR : (r.getD xs.length).toNat = R at *
          generalize hM : (m.getD cap).toNat = M at *
          have hLR : L ≤ R := by omega
          have hRx : R ≤ xs.length := by omega
          refine ⟨.slice (if M = L then some ⟨b, o, none⟩ else some ⟨b, o + L * szOf P e, none⟩) (R - L) (M - L), M - L, ?_, ?_, ⟨_, by rw [hlen]⟩, fun hms => ?_⟩
          · simp only [Instr.sliceAt, Sem.run_bind, run_underlying hu, Result.andThen_ok, Instr.slice, hx, hb, run_sizeOf' hz, Sem.run_pure, Option.map_some, add_eq]
          · have h5 : ((xs.take R).drop L).length ≤ M - L := by omega
            rw [← hlen]
            by_cases hML : M = L
            · have hnil : (xs.take R).drop L = [] := by
                apply List.eq_nil_of_length_eq_zero
                omega
              rw [if_pos hML, hnil]
              exact Tr.slc _ _ b o _ (fun _ _ => Go.undef) (Nat.zero_le _) (fun x hx => by cases hx) (fun i j hi => absurd hi (Nat.not_lt_zero _)) (fun i j hi => absurd hi (Nat.not_lt_zero _))
            · rw [if_neg hML]
              refine Tr.slc _ _ b _ _ (fun i j => c (L + i) j) h5 (fun x hx => hs x (mem_drop_take hx)) (fun i j hi hj => ?_) (fun i j hi hj => ?_)
              · have := hS (L + i) j (by omega) hj
                rw [Nat.add_mul, hse] at this
                rw [hse, show o + L * szOf P e + i * szOf P e + j = o + (L * szOf P e + i * szOf P e) + j by omega]
                exact this
              · have h6 : ((xs.take R).drop L).getD i .undef = xs.getD (L + i) .undef := by
                  simp only [List.getD_eq_getElem?_getD, List.getElem?_drop, List.getElem?_take]
                  rw [if_pos (by omega)]
                rw [h6]
                exact hT _ _ (by omega) hj
          · rw [hlen]
            cases m with
            | none => cases hms
            | some n =>
              have := (hm3 n rfl).1
              simp only [Option.getD_some] at hM
              omega
      obtain ⟨y, cap', k1, k2, ⟨A, k3⟩, k4⟩ := key
      split at hv
      · split at hv
        · obtain rfl := Option.some.inj hv
          exact ⟨y, w, G, by simp only [execOp]; exact run_val k1, h, ⟨k2, A, cap', k3, .inl (k4 rfl)⟩, Fr.refl _ _ _⟩
        · cases hv
      · obtain rfl := Option.some.inj hv
        exact OpOk.tr h (by simp only [execOp]; exact run_val k1) k2
    · cases hv
  · cases hv
theorem mapOpt_spec {α β : Type} {f : α → Option β} : ∀ {l : List α} {m : List β}, mapOpt f l = some m → l.length = m.length ∧ ∀ (i : Nat) (x : α), l[i]? = some x → ∃ y, m[i]? = some y ∧ f x = some y := by
  intro l
  induction l with
  | nil => intro m h; simp only [mapOpt, Option.some.injEq] at h; subst h; exact ⟨rfl, fun i x hx => by simp at hx⟩
  | cons a l ih =>
    intro m h
    simp only [mapOpt] at h
    split at h
    · rename_i b m' hb hm
      obtain rfl := Option.some.inj h
      obtain ⟨h1, h2⟩ := ih hm
      refine ⟨by simp [h1], fun i x hx => ?_⟩
      cases i with
      | zero => simp only [List.getElem?_cons_zero, Option.some.injEq] at hx; subst hx; exact ⟨b, rfl, hb⟩
      | succ i => exact h2 i x (by simpa using hx)
    · cases h
/-- the cells of a row that is read: what the machine loads -/
theorem slc_cells (h : Rel G s a w) {sz : Nat} {l : List V} {b o : Nat} {c : Nat → Nat → Value} (hS : ∀ i j, i < l.length → j < sz → G.S b (o + i * sz + j) = some (c i j)) (P : Program) :
    (loadCells ⟨b, o, none⟩ (l.length * sz)).run P w = .ok (((List.range (l.length * sz)).map fun k => c (k / sz) (k % sz)).toArray) w := by
  have := run_loadCells_list (P := P) (w := w) ⟨b, o, none⟩ ((List.range (l.length * sz)).map fun k => c (k / sz) (k % sz)) ?_
  · simpa using this
  · intro j v hj
    rw [List.getElem?_map] at hj
    cases hr : (List.range (l.length * sz))[j]? with
    | none => simp [hr] at hj
    | some k =>
      simp only [hr, Option.map_some, Option.some.injEq] at hj
      subst hj
      have hk : k = j ∧ j < l.length * sz := by
        rcases Nat.lt_or_ge j (l.length * sz) with h' | h'
        · rw [List.getElem?_range h'] at hr
          exact ⟨(Option.some.inj hr).symm, h'⟩
        · rw [List.getElem?_eq_none (by simpa using h')] at hr; cases hr
      obtain ⟨rfl, hlt⟩ := hk
      have hz : 0 < sz := by
        rcases Nat.eq_zero_or_pos sz with h0 | h0
        · subst h0; simp at hlt
        · exact h0
      have h1 : k / sz < l.length := Nat.div_lt_of_lt_mul (by rw [Nat.mul_comm]; exact hlt)
      have h2 : k % sz < sz := Nat.mod_lt _ hz
      have h3 := h.imm _ _ _ (hS _ _ h1 h2)
      rw [add_eq]
      rw [show o + k = o + k / sz * sz + k % sz by have := Nat.div_add_mod k sz; rw [Nat.mul_comm] at this; omega]
      exact h3
theorem op_convert {x : Operand} {src dst : TypeId} {v : V} (h : Rel G s a w) (hv : convV P src dst (s.see P src x) = some v) : OpOk P ⟨d, .convert src dst x, ty, pos, af, gd⟩ G s a w v s := by
  have h1 := h.see P src x
  have h0 : ∀ own sz l, s.see P src x = .slc own sz l → own = false := fun own sz l e => see_slc e
  unfold convV at hv
  generalize s.see P src x = u at hv h1 h0
  split at hv
  · rename_i k n k' n' hs hd
    obtain rfl := Option.some.inj hv
    refine OpOk.tr h (x := .int _ _) ?_ (Tr.int _ _)
    simp only [execOp]
    refine run_val ?_
    simp [convert, run_underlying hs, run_underlying hd, h1.int_inv, Conv.intToInt]
  · rename_i b hs hd
    obtain rfl := Option.some.inj hv
    refine OpOk.tr h (x := .string b) ?_ (Tr.str _)
    simp only [execOp]
    refine run_val ?_
    simp [convert, run_underlying hs, run_underlying hd, h1.str_inv]
  · rename_i e own sz l hs hd
    split at hv
    · rename_i ns he hm
      split at hv
      · rename_i hz
        subst hz
        obtain rfl := Option.some.inj hv
        obtain rfl := h0 _ _ _ rfl
        obtain ⟨hl, hn⟩ := mapOpt_spec hm
        rcases h1.slc_inv with ⟨rfl, A0, cap0, hx⟩ | ⟨b, o, cap, c, hx, hcap, hsz, hS, hT⟩
        · obtain rfl : ns = [] := List.eq_nil_of_length_eq_zero (by simpa using hl.symm)
          refine OpOk.tr h (x := .string (ofInts [])) ?_ (Tr.str _)
          simp only [execOp]
          refine run_val ?_
          rw [hx, run_convert_bytes_string w src dst e _ _ _ hs he hd]
          cases A0 <;> rfl
        · refine OpOk.tr h (x := .string (ofInts ns)) ?_ (Tr.str _)
          simp only [execOp]
          refine run_val ?_
          rw [hx, run_convert_bytes_string w src dst e _ _ _ hs he hd]
          refine run_bytesToString w _ _ _ ns ?_
          have := slc_cells h hS P
          rw [Nat.mul_one] at this
          rw [this]
          congr 2
          apply List.ext_getElem?
          intro i
          by_cases hi : i < l.length
          · have hi' : i < ns.length := by omega
            obtain ⟨y, hy, hy'⟩ := hn i _ (List.getElem?_eq_getElem hi)
            have := hT i 0 hi (by omega)
            rw [List.getElem?_map, List.getElem?_range (by simpa using hi), List.getElem?_map, hy]
            simp only [Option.map_some, Nat.div_one, Nat.mod_one]
            simp only [List.getD_eq_getElem?_getD, List.getElem?_eq_getElem hi, Option.getD_some] at this
            generalize l[i] = z at hy' this
            cases z <;> simp only [u8, reduceCtorEq] at hy'
            rename_i k m
            cases k <;> simp only [u8, reduceCtorEq, Option.some.injEq] at hy'
            subst hy'
            have := this.int_inv
            rw [this]
          · simp [List.getElem?_eq_none (show ns.length ≤ i by omega), hi]
      · cases hv
    · cases hv
  · cases hv
theorem op_makeFunc {f : Nat} {caps : Array Operand} {cs : List V} (h : Rel G s a w) (hc : mapOpt (fun x => match s.see P 0 x with | .ptr lv t off => some (V.ptr lv t off) | _ => none) caps.toList = some cs) :
    OpOk P ⟨d, .makeFunc (.func f) #[] caps, ty, pos, af, gd⟩ G s a w (.fn f cs) s := by
  obtain ⟨hl, hn⟩ := mapOpt_spec hc
  refine OpOk.tr h (x := .func (.func f) #[] (caps.map a.eval)) (by simp [execOp, Instr.makeFunc]) (Tr.fn _ _ _ (by simpa using hl.symm) fun i hi => ?_)
  have hi' : i < caps.size := by have := hl; simp at this; omega
  obtain ⟨y, hy, hy'⟩ := hn i caps[i] (by simp [hi'])
  have h1 := h.see P 0 caps[i]
  have e1 : cs.getD i .undef = y := by simp [List.getD_eq_getElem?_getD, hy]
  have e2 : (caps.map a.eval).getD i Go.undef = a.eval caps[i] := by simp [Array.getD, hi']
  rw [e1, e2]
  split at hy'
  · rename_i lv t off hs
    obtain rfl := Option.some.inj hy'
    rw [hs] at h1
    exact h1
  · cases hy'
end Go.Ev
namespace Go.Ev
open Go
set_option linter.unusedVariables false
set_option linter.unusedSimpArgs false
variable {P : Program} {G : Gh} {s : St} {a : Act} {w : World} {o : Oper}
variable {d : Option Nat} {ty : TypeId} {pos : String} {af : Array Edge} {gd : Option (Nat × Bool)}

theorem setIn_length (t : Nat) (ob : Ob) (lv : Nat) : ∀ o : List (Nat → Option Ob), (setIn t ob lv o).length = o.length := by
  intro o
  induction o with
  | nil => rfl
  | cons f o ih => simp only [setIn]; split <;> simp [ih]
theorem obIn_setIn (t : Nat) (ob : Ob) (lv : Nat) : ∀ (o : List (Nat → Option Ob)) (t' lv' : Nat), (∃ x, obIn t lv o = some x) → obIn t' lv' (setIn t ob lv o) = if lv' = lv ∧ t' = t then some ob else obIn t' lv' o := by
  intro o
  induction o with
  | nil => intro t' lv' h; obtain ⟨x, hx⟩ := h; cases hx
  | cons f o ih =>
    intro t' lv' h
    simp only [setIn]
    by_cases h1 : lv = o.length
    · rw [if_pos h1]
      simp only [obIn]
      by_cases h2 : lv' = o.length
      · rw [if_pos h2, if_pos h2]
        by_cases h3 : t' = t
        · simp [upd, h3, h1, h2]
        · simp [upd, h3]
      · rw [if_neg h2, if_neg h2]
        rw [if_neg (fun e => h2 (e.1.trans h1))]
    · rw [if_neg h1]
      simp only [obIn, setIn_length]
      by_cases h2 : lv' = o.length
      · rw [if_pos h2, if_pos h2, if_neg (fun e => h1 (e.1.symm.trans h2))]
      · rw [if_neg h2, if_neg h2]
        refine ih t' lv' ?_
        obtain ⟨x, hx⟩ := h
        simp only [obIn, if_neg h1] at hx
        exact ⟨x, hx⟩
theorem setOb_lv (lv u : Nat) (ob : Ob) : (s.setOb lv u ob).lv = s.lv := by
  unfold St.setOb St.lv
  split
  · rfl
  · exact setIn_length _ _ _ _
theorem setOb_t (lv u : Nat) (ob : Ob) : (s.setOb lv u ob).t = s.t := by unfold St.setOb; split <;> rfl
theorem setOb_n (lv u : Nat) (ob : Ob) : (s.setOb lv u ob).n = s.n := by unfold St.setOb; split <;> rfl
theorem ob_setOb {lv u : Nat} {old : Ob} (h : s.ob lv u = some old) (ob : Ob) (lv' t' : Nat) : (s.setOb lv u ob).ob lv' t' = if lv' = lv ∧ t' = u then some ob else s.ob lv' t' := by
  unfold St.setOb
  unfold St.ob at h ⊢
  by_cases h1 : lv = s.o.length
  · rw [if_pos h1]
    simp only [obIn]
    by_cases h2 : lv' = s.o.length
    · rw [if_pos h2, if_pos h2]
      by_cases h3 : t' = u
      · simp [upd, h3, h1, h2]
      · simp [upd, h3]
    · rw [if_neg h2, if_neg h2, if_neg (fun e => h2 (e.1.trans h1))]
  · rw [if_neg h1]
    simp only [obIn, setIn_length]
    by_cases h2 : lv' = s.o.length
    · rw [if_pos h2, if_pos h2, if_neg (fun e => h1 (e.1.symm.trans h2))]
    · rw [if_neg h2, if_neg h2]
      refine obIn_setIn u ob lv s.o t' lv' ⟨old, ?_⟩
      simpa only [obIn, if_neg h1] using h
/-- an object has turned; what else was said stands -/
theorem Rel.setOb {G G' : Gh} {w w' : World} (h : Rel G s a w) {lv u g : Nat} {old ob : Ob} (ho : s.ob lv u = some old) (hg : G.β lv u = some g) (hgo : G.ω g = some (.ob lv u)) (hle : Le G G') (hβ : G'.β = G.β)
    (hs : ∀ k p, k ≠ g → (∀ j, p ≠ .cl lv u j) → (∀ c j, p ≠ .rs c j) → G.ω k = some p → w'.heap[k]? = w.heap[k]? ∧ (∀ j, G'.S k j = G.S k j) ∧ G'.ω k = some p)
    (himm : ∀ g j c, G'.S g j = some c → w'.cell? ⟨g, j, none⟩ = some c) (hlim : ∀ g p, G'.ω g = some p → g < w'.heap.size) (hgω : G'.ω g = some (.ob lv u)) (hnew : ObR G' w' lv u g ob) : Rel G' (s.setOb lv u ob) a w' := by
  refine ⟨by rw [setOb_n]; exact h.size, h.defers, fun t => ?_, fun lv' t' ob' hob => ?_, fun lv' t' g' hg' => ?_, himm, hlim⟩
  · rw [setOb_t, setOb_lv]
    refine (h.slot t).mono hle fun c j k hk => ?_
    exact hs k _ (by rintro rfl; rw [hgo] at hk; cases hk) (fun j e => by cases e) (fun _ _ e => by cases e) hk
  · rw [ob_setOb ho] at hob
    split at hob
    · rename_i he
      obtain ⟨rfl, rfl⟩ := he
      obtain rfl := Option.some.inj hob
      exact ⟨g, by rw [hβ]; exact hg, hgω, hnew⟩
    · rename_i hne
      obtain ⟨g', h1, h2, h3⟩ := h.obj lv' t' ob' hob
      have hgg : g' ≠ g := by
        rintro rfl
        rw [hgo] at h2
        cases h2
        exact hne ⟨rfl, rfl⟩
      obtain ⟨k1, k2, k3⟩ := hs g' _ hgg (fun j e => by cases e) (fun _ _ e => by cases e) h2
      refine ⟨g', by rw [hβ]; exact h1, k3, h3.mono hle ⟨k1, k2⟩ fun j k hk => ?_⟩
      refine hs k _ (by rintro rfl; rw [hgo] at hk; cases hk) (fun j' e => ?_) (fun _ _ e => by cases e) hk
      cases e
      exact hne ⟨rfl, rfl⟩
  · rw [ob_setOb ho]
    split
    · exact ⟨_, rfl⟩
    · exact h.dom lv' t' g' (by rw [← hβ]; exact hg')

theorem loadVar_run {t : TypeId} (hz : szOf P t ≠ 0) {b o : Nat} {c : Nat → Value} (hc : ∀ j, j < szOf P t → w.cell? ⟨b, o + j, none⟩ = some (c j)) :
    ∃ x, (loadVar t ⟨b, o, none⟩).run P w = .ok x w ∧ x = if isAgg P t = true then .agg ((List.range (szOf P t)).map c).toArray else c 0 := by
  obtain ⟨i, d, h1, h2, h3, h4⟩ := szOf_ne hz
  unfold loadVar
  simp only [Sem.run_bind, run_isAgg' (P := P) (t := t) (by rw [h2]; rfl), Result.andThen_ok]
  by_cases ha : isAgg P t = true
  · have hl := run_loadCells_list (P := P) (w := w) ⟨b, o, none⟩ ((List.range (szOf P t)).map c) (fun j v hj => by
      rw [List.getElem?_map] at hj
      rcases Nat.lt_or_ge j (szOf P t) with h' | h'
      · rw [List.getElem?_range h', Option.map_some, Option.some.injEq] at hj
        subst hj
        rw [add_eq]
        exact hc j h'
      · rw [List.getElem?_eq_none (by simpa using h')] at hj; cases hj)
    rw [List.length_map, List.length_range] at hl
    simp only [ha, if_true, Sem.run_bind, run_sizeOf' hz, Result.andThen_ok, hl, Sem.run_pure]
    exact ⟨_, rfl, rfl⟩
  · have h0 : w.cell? ⟨b, o, none⟩ = some (c 0) := hc 0 (by omega)
    simp only [ha, Bool.false_eq_true, if_false, run_load, h0]
    exact ⟨_, rfl, rfl⟩
theorem pack_own {p : Nat → Pl} {l : List V} {c : Nat → Value} {ag : Bool} {x : Value} {n : Nat} (hn : 0 < n) (hl : l.length = n) (hT : ∀ j, j < n → OwnC G w (p j) (l.getD j .undef) (c j)) (hx : x = if ag = true then .agg ((List.range n).map c).toArray else c 0) : OwnV G w p (pack ag l) x := by
  subst hx
  cases ag
  · have := hT 0 hn
    simp only [pack, Bool.false_eq_true, if_false]
    cases l with
    | nil => simp at hl; omega
    | cons v l =>
      show OwnV G w p v (c 0)
      simp only [List.getD_cons_zero] at this
      cases v
      case agg m =>
        have h1 : Tr G.S G.β (.agg m) (c 0) := this
        exact OwnV.of_tr' h1
      all_goals exact this
  · simp only [pack, if_true]
    refine ⟨_, rfl, by simp [hl], fun i hi => ?_⟩
    have hi' : i < n := by omega
    have : ((List.range n).map c).toArray.getD i Go.undef = c i := by simp [Array.getD, hi']
    rw [this]
    exact hT i hi'
theorem OwnV.toS {p : Nat → Nat → Pl} {v : V} {x : Value} (h : OwnV G w (p 0) v x) (ht : ∀ l, v ≠ .tup l) : OwnS G w p v x := by
  cases v
  case tup l => exact absurd rfl (ht l)
  all_goals exact h
theorem getD_setL (l c : List V) (off j : Nat) (h : off + c.length ≤ l.length) : (setL l off c).getD j .undef = if off ≤ j ∧ j < off + c.length then c.getD (j - off) .undef else l.getD j .undef := by
  simp only [setL, List.getD_eq_getElem?_getD, List.append_assoc]
  by_cases h1 : j < off
  · rw [List.getElem?_append_left (by simp; omega), List.getElem?_take, if_pos h1, if_neg (by omega)]
  · rw [List.getElem?_append_right (by simp; omega)]
    simp only [List.length_take, Nat.min_eq_left (show off ≤ l.length by omega)]
    by_cases h2 : j - off < c.length
    · rw [List.getElem?_append_left h2, if_pos (by omega)]
    · rw [List.getElem?_append_right (by omega), if_neg (by omega), List.getElem?_drop]
      congr 2
      omega
theorem length_setL (l c : List V) (off : Nat) (h : off + c.length ≤ l.length) : (setL l off c).length = l.length := by
  simp [setL]; omega
def outF (lv u off n : Nat) : Pl → Pl
  | .cl l t j => if l = lv ∧ t = u ∧ off ≤ j ∧ j < off + n then .rs 0 (j - off) else .cl l t j
  | p => p
theorem pack_tup {ag : Bool} {l : List V} {n : Nat} (hl : l.length = n) (hn : 0 < n) (h : ∀ j m, j < n → l.getD j .undef ≠ .tup m) : ∀ m, pack ag l ≠ .tup m := by
  intro m
  cases ag
  · cases l with
    | nil => simp at hl; omega
    | cons v l => exact h 0 m hn
  · intro e; cases e
theorem OwnC.tup {p : Pl} {m : List V} {x : Value} (h : OwnC G w p (.tup m) x) : False := by cases h
theorem flat_agg_or (v : V) : (∃ l, v = .agg l) ∨ ((∀ l, v ≠ .agg l) ∧ v.flat = [v]) := by
  cases v
  case agg l => exact .inl ⟨l, rfl⟩
  all_goals exact .inr ⟨fun l e => (by cases e), rfl⟩
/-- the same, the world standing still -/
def OpOkS (P : Program) (o : Oper) (G : Gh) (s : St) (a : Act) (w : World) (v : V) (s1 : St) : Prop :=
  ∃ x G', (execOp a.eval o).run P w = .ok (.value x) w ∧ Rel G' s1 a w ∧ OwnS G' w Pl.rs v x ∧ Fr s.lv G w G' w
theorem OpOkS.tr (h : Rel G s a w) {v : V} {x : Value} (hr : (execOp a.eval o).run P w = .ok (.value x) w) (hT : Tr G.S G.β v x) : OpOkS P o G s a w v s :=
  ⟨x, G, hr, h, OwnS.of_tr' hT, Fr.refl _ _ _⟩
theorem op_loadS {x : Operand} {t : TypeId} {tk : Bool} {v : V} {s1 : St} (h : Rel G s a w) (hv : vLoad P s tk t (s.see P 0 x) = some (v, s1)) : OpOkS P ⟨d, .load t x, ty, pos, af, gd⟩ G s a w v s1 := by
  have h1 := h.see P 0 x
  unfold vLoad at hv
  generalize s.see P 0 x = u at hv h1
  have hrun : ∀ b o y w', a.eval x = .pointer (some ⟨b, o, none⟩) → (loadVar t ⟨b, o, none⟩).run P w = .ok y w' → (execOp a.eval ⟨d, .load t x, ty, pos, af, gd⟩).run P w = .ok (.value y) w' := by
    intro b o y w' hx hl
    simp only [execOp]
    refine run_val ?_
    simp only [Instr.loadAt, hx, Instr.sureAddr, Sem.run_bind, Sem.run_pure, Result.andThen_ok, hl]
  split at hv
  · rename_i lv u off
    obtain ⟨g, hg, hx⟩ := h1.ptr_inv
    split at hv
    · rename_i cs ho
      split at hv
      · rename_i hc
        obtain ⟨g', hg', hω, en, ety, hb, hl, hS, hT⟩ := h.obj lv u _ ho
        obtain rfl : g' = g := by rw [hg] at hg'; exact (Option.some.inj hg').symm
        obtain ⟨y, hy, hy'⟩ := loadVar_run (P := P) (w := w) hc.2 (b := g') (o := off) (c := fun j => en.getD (off + j) Go.undef) (fun j hj => by
          have : off + j < en.size := by omega
          simp [World.cell?, hb, Array.getD, this])
        split at hv
        · obtain ⟨rfl, rfl⟩ := Prod.mk.inj (Option.some.inj hv)
          have hlen : ((cs.drop off).take (szOf P t)).length = szOf P t := by simp; omega
          have hle : Le G (G.ren (outF lv u off (szOf P t))) := G.ren_le _
          have hown : OwnV (G.ren (outF lv u off (szOf P t))) w (Pl.rs 0) (pack (isAgg P t) ((cs.drop off).take (szOf P t))) y :=
            pack_own (by omega) hlen (fun j hj => by
              rw [getD_drop_take _ _ _ _ hj]
              exact (hT (off + j) (by omega)).ren _ (by simp only [outF]; rw [if_pos ⟨trivial, trivial, by omega, by omega⟩]; congr 1; omega)) hy'
          refine ⟨y, G.ren (outF lv u off (szOf P t)), hrun _ _ _ _ hx hy, ?_, OwnV.toS hown (pack_tup hlen (by omega) fun j m hj e => ?_), ren_fr fun p => ?_⟩
          · refine h.setOb ho hg hω hle rfl (fun k p hk hp _ hpk => ⟨rfl, fun _ => rfl, ?_⟩) h.imm (ren_lim h.lim) (by rw [ren_ω hω]; rfl) ?_
            · rw [ren_ω hpk]
              congr 1
              cases p with
              | cl l t' j =>
                simp only [outF]
                split
                · rename_i hh
                  exact absurd (by rw [hh.1, hh.2.1]) (hp j)
                · rfl
              | _ => rfl
            · have hlm : (((cs.drop off).take (szOf P t)).map V.viewC).length = szOf P t := by rw [List.length_map, hlen]
              refine ⟨en, ety, hb, by rw [length_setL _ _ _ (by rw [hlm]; omega)]; exact hl, hS, fun j hj => ?_⟩
              rw [length_setL _ _ _ (by rw [hlm]; omega)] at hj
              rw [getD_setL _ _ _ _ (by rw [hlm]; omega), hlm]
              split
              · rename_i hh
                rw [getD_viewC, getD_drop_take _ _ _ _ (by omega), show off + (j - off) = j by omega]
                exact OwnC.of_tr (hle.tr (hT j hj).view)
              · rename_i hh
                exact (hT j hj).ren _ (by simp only [outF]; rw [if_neg (fun e => hh ⟨e.2.2.1, e.2.2.2⟩)])
          · rw [getD_drop_take _ _ _ _ hj] at e
            have := hT (off + j) (by omega)
            rw [e] at this
            exact this.tup
          · cases p with
            | cl l t' j => exact .inr trivial
            | _ => exact .inl rfl
        · obtain ⟨rfl, rfl⟩ := Prod.mk.inj (Option.some.inj hv)
          refine OpOkS.tr h (hrun _ _ _ _ hx hy) (pack_tr (n := szOf P t) (by omega) (by simp; omega) (fun j hj => ?_) hy')
          rw [getD_viewC, getD_drop_take _ _ _ _ hj]
          exact (hT (off + j) (by omega)).view
      · cases hv
    · cases hv
  · rename_i l
    split at hv
    · rename_i hc
      obtain ⟨rfl, rfl⟩ := Prod.mk.inj (Option.some.inj hv)
      obtain ⟨b, o, c, hx, _, hS, hT⟩ := h1.imp_inv
      obtain ⟨y, hy, hy'⟩ := loadVar_run (P := P) (w := w) hc.2 (b := b) (o := o) (c := c) (fun j hj => h.imm _ _ _ (hS j (by omega)))
      refine OpOkS.tr h (hrun _ _ _ _ hx hy) (pack_tr (n := szOf P t) (by omega) (by simp; omega) (fun j hj => ?_) hy')
      have := hT j (by omega)
      simpa [List.getD_eq_getElem?_getD, List.getElem?_take, hj] using this
    · cases hv
  · rename_i lv u i sz
    obtain ⟨g, hg, hx⟩ := h1.eptr_inv
    split at hv
    · rename_i fz sz' l ho
      split at hv
      · rename_i hc
        obtain ⟨rfl, rfl, hz, hi⟩ := hc
        obtain ⟨rfl, rfl⟩ := Prod.mk.inj (Option.some.inj hv)
        obtain ⟨g', hg', hω, en, ety, hb, hl, hs, hT, _⟩ := h.obj lv u _ ho
        obtain rfl : g' = g := by rw [hg] at hg'; exact (Option.some.inj hg').symm
        have hfl : (l.getD i .undef).flat.length = szOf P t := by
          refine (hs _ ?_).1
          rw [List.getD_eq_getElem?_getD, List.getElem?_eq_getElem hi]
          exact List.getElem_mem hi
        have hle : i * szOf P t + szOf P t ≤ en.size := by
          refine Nat.le_trans ?_ hl
          calc i * szOf P t + szOf P t = (i + 1) * szOf P t := by rw [Nat.succ_mul]
            _ ≤ l.length * szOf P t := Nat.mul_le_mul_right _ hi
        obtain ⟨y, hy, hy'⟩ := loadVar_run (P := P) (w := w) hz (b := g') (o := i * szOf P t) (c := fun j => en.getD (i * szOf P t + j) Go.undef) (fun j hj => by
          have : i * szOf P t + j < en.size := by omega
          simp [World.cell?, hb, Array.getD, this])
        exact OpOkS.tr h (hrun _ _ _ _ hx hy) (pack_tr (n := szOf P t) (by omega) hfl (fun j hj => hT i j hi hj) hy')
      · cases hv
    · rename_i sz' l ho
      split at hv
      · rename_i hc
        obtain ⟨rfl, rfl, hz, hi⟩ := hc
        obtain ⟨rfl, rfl⟩ := Prod.mk.inj (Option.some.inj hv)
        obtain ⟨g', hg', hω, en, ety, hb, hl, hs, hT, _⟩ := h.obj lv u _ ho
        obtain rfl : g' = g := by rw [hg] at hg'; exact (Option.some.inj hg').symm
        have hfl : (l.getD i .undef).flat.length = szOf P t := by
          refine (hs _ ?_).1
          rw [List.getD_eq_getElem?_getD, List.getElem?_eq_getElem hi]
          exact List.getElem_mem hi
        have hle : i * szOf P t + szOf P t ≤ en.size := by
          refine Nat.le_trans ?_ hl
          calc i * szOf P t + szOf P t = (i + 1) * szOf P t := by rw [Nat.succ_mul]
            _ ≤ l.length * szOf P t := Nat.mul_le_mul_right _ hi
        obtain ⟨y, hy, hy'⟩ := loadVar_run (P := P) (w := w) hz (b := g') (o := i * szOf P t) (c := fun j => en.getD (i * szOf P t + j) Go.undef) (fun j hj => by
          have : i * szOf P t + j < en.size := by omega
          simp [World.cell?, hb, Array.getD, this])
        exact OpOkS.tr h (hrun _ _ _ _ hx hy) (pack_tr (n := szOf P t) (by omega) hfl (fun j hj => hT i j hi hj) hy')
      · cases hv
    · cases hv
  · cases hv
theorem op_load {x : Operand} {t : TypeId} {tk : Bool} {v : V} {s1 : St} (h : Rel G s a w) (hv : vLoad P s tk t (s.see P 0 x) = some (v, s1)) : OpOk P ⟨d, .load t x, ty, pos, af, gd⟩ G s a w v s1 :=
  let ⟨x, G', h1, h2⟩ := op_loadS h hv
  ⟨x, w, G', h1, h2⟩
end Go.Ev
