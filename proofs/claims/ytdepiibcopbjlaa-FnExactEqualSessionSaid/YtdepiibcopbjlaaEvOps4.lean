/- The operations that only compute: cuts, conversions, functions, parts of a tuple, loads. -/
import Derived.Test.YtdepiibcopbjlaaEvOps3
import Derived.Laws.BytesString
import Derived.Laws.Tables
import Derived.Laws.CopyRow
namespace Go.Ev
open Go
set_option linter.unusedVariables false
set_option linter.unusedSimpArgs false
variable {P : Program} {G : Gh} {s : St} {a : Act} {w : World} {o : Oper}
variable {d : Option Nat} {ty : TypeId} {pos : String} {af : Array Edge} {gd : Option (Nat × Bool)}

theorem optInt_inv (h : Rel G s a w) {lo : Option Operand} {l : Option Int} (hl : optInt (lo.map (s.see P 0)) = some l) : (l = none ∧ lo.map a.eval = none) ∨ ∃ k n, l = some n ∧ lo.map a.eval = some (.int k n) := by
  cases lo with
  | none => simp [optInt] at hl; exact .inl ⟨hl.symm, rfl⟩
  | some x =>
    have h1 := h.see P 0 x
    simp only [Option.map_some] at hl
    generalize s.see P 0 x = u at hl h1
    cases u <;> simp only [optInt, reduceCtorEq, Option.some.injEq] at hl
    subst hl
    exact .inr ⟨_, _, rfl, by rw [Option.map_some, h1.int_inv]⟩
theorem bound_run {k : IntKind} {n : Int} {y : Nat} {code : BoundsCode} (h0 : 0 ≤ n) (h1 : n ≤ y) (w : World) : (Instr.sliceBound (.int k n) y code).run P w = .ok n.toNat w := by
  simp [Instr.sliceBound, asIntOf, h0, h1]
theorem bounds_run {lo hi mx : Option Value} {l h m : Option Int} {sl : Bool} {len cap : Nat} (hlo : (l = none ∧ lo = none) ∨ ∃ k n, l = some n ∧ lo = some (.int k n)) (hhi : (h = none ∧ hi = none) ∨ ∃ k n, h = some n ∧ hi = some (.int k n))
    (hmx : (m = none ∧ mx = none) ∨ ∃ k n, m = some n ∧ mx = some (.int k n)) (hc : len ≤ cap) (h0 : 0 ≤ l.getD 0) (h1 : l.getD 0 ≤ h.getD len) (h2 : h.getD len ≤ len) (h3 : ∀ n, m = some n → n = h.getD len ∧ h.isSome = true) (w : World) :
    (Instr.sliceBounds sl len cap lo hi mx).run P w = .ok ((l.getD 0).toNat, (h.getD len).toNat, (m.getD cap).toNat) w := by
  unfold Instr.sliceBounds
  rcases hmx with ⟨rfl, rfl⟩ | ⟨km, nm, rfl, rfl⟩
  · rcases hhi with ⟨rfl, rfl⟩ | ⟨kh, nh, rfl, rfl⟩ <;> rcases hlo with ⟨rfl, rfl⟩ | ⟨kl, nl, rfl, rfl⟩ <;> simp only [Option.getD_some, Option.getD_none] at h0 h1 h2 ⊢
    · simp
    · simp [bound_run h0 h1]
    · simp [bound_run (show (0:Int) ≤ nh by omega) (show nh ≤ (cap:Int) by omega)]
    · simp [bound_run (show (0:Int) ≤ nh by omega) (show nh ≤ (cap:Int) by omega), bound_run h0 (show nl ≤ (nh.toNat : Int) by omega)]
  · obtain ⟨e1, e2⟩ := h3 _ rfl
    rcases hhi with ⟨rfl, rfl⟩ | ⟨kh, nh, rfl, rfl⟩
    · cases e2
    · simp only [Option.getD_some] at e1 h1 h2
      subst e1
      rcases hlo with ⟨rfl, rfl⟩ | ⟨kl, nl, rfl, rfl⟩ <;> simp only [Option.getD_some, Option.getD_none] at h0 h1 ⊢
      · simp [bound_run (show (0:Int) ≤ nm by omega) (show nm ≤ (cap:Int) by omega), bound_run (show (0:Int) ≤ nm by omega) (show nm ≤ (nm.toNat : Int) by omega)]
      · simp [bound_run (show (0:Int) ≤ nm by omega) (show nm ≤ (cap:Int) by omega), bound_run (show (0:Int) ≤ nm by omega) (show nm ≤ (nm.toNat : Int) by omega), bound_run h0 (show nl ≤ (nm.toNat : Int) by omega)]
theorem mem_drop_take {α : Type} {l : List α} {i j : Nat} {x : α} (h : x ∈ (l.take i).drop j) : x ∈ l := List.mem_of_mem_take (List.mem_of_mem_drop h)
theorem op_slice {x : Operand} {lo hi mx : Option Operand} {t : TypeId} {l r m : Option Int} {v : V} (h : Rel G s a w) (hl : optInt (lo.map (s.see P 0)) = some l) (hr : optInt (hi.map (s.see P 0)) = some r) (hm : optInt (mx.map (s.see P 0)) = some m)
    (hv : sliceV P t (s.see P t x) l r m = some v) : OpOk P ⟨d, .slice t x lo hi mx, ty, pos, af, gd⟩ G s a w v s := by
  have h1 := h.see P t x
  have h0 : ∀ own sz l, s.see P t x = .slc own sz l → own = false := fun own sz l e => see_slc e
  have g1 := optInt_inv h hl
  have g2 := optInt_inv h hr
  have g3 := optInt_inv h hm
  unfold sliceV at hv
  generalize s.see P t x = u at hv h1 h0
  split at hv
  · rename_i b
    split at hv
    · cases hv
    · split at hv
      · rename_i hc
        obtain rfl := Option.some.inj hv
        have hu := isStr_spec hc.1
        refine OpOk.tr h (x := .string (b.extract (l.getD 0).toNat (r.getD b.size).toNat)) ?_ (Tr.str _)
        simp only [execOp]
        refine run_val ?_
        rcases g3 with ⟨_, e3⟩ | ⟨_, _, e3, _⟩
        · have := bounds_run (P := P) (sl := false) (len := b.size) (cap := b.size) (m := none) g1 g2 (.inl ⟨rfl, rfl⟩) (Nat.le_refl _) hc.2.1 hc.2.2.1 hc.2.2.2 (fun n e => by cases e) w
          simp only [Instr.sliceAt, Sem.run_bind, run_underlying hu, Result.andThen_ok, Instr.slice, h1.str_inv, e3]
          simp only [Option.isSome_none, Bool.false_eq_true, if_false, Sem.run_bind, Sem.run_pure, Result.andThen_ok]
          rw [this]
          rfl
        · cases e3
      · cases hv
  · rename_i own sz xs
    obtain rfl := h0 _ _ _ rfl
    split at hv
    · rename_i hc
      obtain ⟨hsl, hsz, hnz, hb0, hb1, hb2⟩ := hc
      obtain ⟨e, hu, he⟩ := isSl_spec hsl
      have hz : szOf P e ≠ 0 := by rw [← elemSz_ne hu, ← hsz]; exact hnz
      have hse : sz = szOf P e := by rw [hsz, elemSz_ne hu]
      have hm3 : ∀ n, m = some n → n = r.getD xs.length ∧ r.isSome = true := by
        rintro n rfl
        simp only at hv
        split at hv
        · assumption
        · cases hv
      -- what the machine gives
      have key : ∃ y cap', (Instr.sliceAt t (a.eval x) (lo.map a.eval) (hi.map a.eval) (mx.map a.eval)).run P w = .ok y w ∧ Tr G.S G.β (.slc false sz ((xs.take (r.getD xs.length).toNat).drop (l.getD 0).toNat)) y ∧ (∃ A, y = .slice A ((xs.take (r.getD xs.length).toNat).drop (l.getD 0).toNat).length cap') ∧ (m.isSome = true → cap' = ((xs.take (r.getD xs.length).toNat).drop (l.getD 0).toNat).length) := by
        have hlen : ((xs.take (r.getD xs.length).toNat).drop (l.getD 0).toNat).length = (r.getD xs.length).toNat - (l.getD 0).toNat := by simp; omega
        rcases h1.slc_inv with ⟨rfl, A0, cap0, hx⟩ | ⟨b, o, cap, c, hx, hcap, hs, hS, hT⟩
        · have hb := bounds_run (P := P) (sl := true) (len := 0) (cap := cap0) (m := m) g1 g2 g3 (Nat.zero_le _) hb0 hb1 hb2 hm3 w
          have hn : ([] : List V).length = 0 := rfl
          have e1 : (l.getD 0).toNat = 0 := by omega
          have e2 : (r.getD (([] : List V).length : Int)).toNat = 0 := by omega
          generalize hM : (m.getD ((cap0 : Nat) : Int)).toNat = M at hb
          have e2' : (r.getD ((0 : Nat) : Int)).toNat = 0 := e2
          rw [e1, e2'] at hb
          have hMs : m.isSome = true → M = 0 := by
            intro hms
            cases m with
            | none => cases hms
            | some n =>
              have h7 := (hm3 n rfl).1
              simp only [Option.getD_some] at hM
              have h8 : (r.getD (([] : List V).length : Int)) = r.getD ((0 : Nat) : Int) := rfl
              rw [h8] at h7
              omega
          refine ⟨.slice (A0.map fun a => if M = 0 then a else a.add (0 * szOf P e)) 0 M, M, ?_, ?_, ⟨_, by simp; rfl⟩, fun h => by simp [hMs h]⟩
          · simp only [Instr.sliceAt, Sem.run_bind, run_underlying hu, Result.andThen_ok, Instr.slice, hx, hb, run_sizeOf' hz, Sem.run_pure]
            simp
            cases A0 <;> simp
            split <;> rfl
          · simp only [List.take_nil, List.drop_nil]; exact Tr.slc0 _ _ _
        · have hb := bounds_run (P := P) (sl := true) (len := xs.length) (cap := cap) (m := m) g1 g2 g3 hcap hb0 hb1 hb2 hm3 w
          have hmc : (r.getD xs.length).toNat ≤ (m.getD cap).toNat := by
            cases m with
            | none => simp only [Option.getD_none]; omega
            | some n => have := (hm3 n rfl).1; simp only [Option.getD_some]; omega
          generalize hL : (l.getD 0).toNat = L at *
          generalize hR : (r.getD xs.length).toNat = R at *
          generalize hM : (m.getD cap).toNat = M at *
          have hLR : L ≤ R := by omega
          have hRx : R ≤ xs.length := by omega
          refine ⟨.slice (if M = L then some ⟨b, o, none⟩ else some ⟨b, o + L * szOf P e, none⟩) (R - L) (M - L), M - L, ?_, ?_, ⟨_, by rw [hlen]⟩, fun hms => ?_⟩
          · simp only [Instr.sliceAt, Sem.run_bind, run_underlying hu, Result.andThen_ok, Instr.slice, hx, hb, run_sizeOf' hz, Sem.run_pure, Option.map_some, add_eq]
          · have h5 : ((xs.take R).drop L).length ≤ M - L := by omega
            rw [← hlen]
            by_cases hML : M = L
            · have hnil : (xs.take R).drop L = [] := by
                apply List.eq_nil_of_length_eq_zero
                omega
              rw [if_pos hML, hnil]
              exact Tr.slc _ _ b o _ (fun _ _ => Go.undef) (Nat.zero_le _) (fun x hx => by cases hx) (fun i j hi => absurd hi (Nat.not_lt_zero _)) (fun i j hi => absurd hi (Nat.not_lt_zero _))
            · rw [if_neg hML]
              refine Tr.slc _ _ b _ _ (fun i j => c (L + i) j) h5 (fun x hx => hs x (mem_drop_take hx)) (fun i j hi hj => ?_) (fun i j hi hj => ?_)
              · have := hS (L + i) j (by omega) hj
                rw [Nat.add_mul, hse] at this
                rw [hse, show o + L * szOf P e + i * szOf P e + j = o + (L * szOf P e + i * szOf P e) + j by omega]
                exact this
              · have h6 : ((xs.take R).drop L).getD i .undef = xs.getD (L + i) .undef := by
                  simp only [List.getD_eq_getElem?_getD, List.getElem?_drop, List.getElem?_take]
                  rw [if_pos (by omega)]
                rw [h6]
                exact hT _ _ (by omega) hj
          · rw [hlen]
            cases m with
            | none => cases hms
            | some n =>
              have := (hm3 n rfl).1
              simp only [Option.getD_some] at hM
              omega
      obtain ⟨y, cap', k1, k2, ⟨A, k3⟩, k4⟩ := key
      split at hv
      · split at hv
        · obtain rfl := Option.some.inj hv
          exact ⟨y, w, G, by simp only [execOp]; exact run_val k1, h, ⟨k2, A, cap', k3, .inl (k4 rfl)⟩, Fr.refl _ _ _⟩
        · cases hv
      · obtain rfl := Option.some.inj hv
        exact OpOk.tr h (by simp only [execOp]; exact run_val k1) k2
    · cases hv
  · cases hv
theorem mapOpt_spec {α β : Type} {f : α → Option β} : ∀ {l : List α} {m : List β}, mapOpt f l = some m → l.length = m.length ∧ ∀ (i : Nat) (x : α), l[i]? = some x → ∃ y, m[i]? = some y ∧ f x = some y := by
  intro l
  induction l with
  | nil => intro m h; simp only [mapOpt, Option.some.injEq] at h; subst h; exact ⟨rfl, fun i x hx => by simp at hx⟩
  | cons a l ih =>
    intro m h
    simp only [mapOpt] at h
    split at h
    · rename_i b m' hb hm
      obtain rfl := Option.some.inj h
      obtain ⟨h1, h2⟩ := ih hm
      refine ⟨by simp [h1], fun i x hx => ?_⟩
      cases i with
      | zero => simp only [List.getElem?_cons_zero, Option.some.injEq] at hx; subst hx; exact ⟨b, rfl, hb⟩
      | succ i => exact h2 i x (by simpa using hx)
    · cases h
/-- the cells of a row that is read: what the machine loads -/
theorem slc_cells (h : Rel G s a w) {sz : Nat} {l : List V} {b o : Nat} {c : Nat → Nat → Value} (hS : ∀ i j, i < l.length → j < sz → G.S b (o + i * sz + j) = some (c i j)) (P : Program) :
    (loadCells ⟨b, o, none⟩ (l.length * sz)).run P w = .ok (((List.range (l.length * sz)).map fun k => c (k / sz) (k % sz)).toArray) w := by
  have := run_loadCells_list (P := P) (w := w) ⟨b, o, none⟩ ((List.range (l.length * sz)).map fun k => c (k / sz) (k % sz)) ?_
  · simpa using this
  · intro j v hj
    rw [List.getElem?_map] at hj
    cases hr : (List.range (l.length * sz))[j]? with
    | none => simp [hr] at hj
    | some k =>
      simp only [hr, Option.map_some, Option.some.injEq] at hj
      subst hj
      have hk : k = j ∧ j < l.length * sz := by
        rcases Nat.lt_or_ge j (l.length * sz) with h' | h'
        · rw [List.getElem?_range h'] at hr
          exact ⟨(Option.some.inj hr).symm, h'⟩
        · rw [List.getElem?_eq_none (by simpa using h')] at hr; cases hr
      obtain ⟨rfl, hlt⟩ := hk
      have hz : 0 < sz := by
        rcases Nat.eq_zero_or_pos sz with h0 | h0
        · subst h0; simp at hlt
        · exact h0
      have h1 : k / sz < l.length := Nat.div_lt_of_lt_mul (by rw [Nat.mul_comm]; exact hlt)
      have h2 : k % sz < sz := Nat.mod_lt _ hz
      have h3 := h.imm _ _ _ (hS _ _ h1 h2)
      rw [add_eq]
      rw [show o + k = o + k / sz * sz + k % sz by have := Nat.div_add_mod k sz; rw [Nat.mul_comm] at this; omega]
      exact h3
theorem op_convert {x : Operand} {src dst : TypeId} {v : V} (h : Rel G s a w) (hv : convV P src dst (s.see P src x) = some v) : OpOk P ⟨d, .convert src dst x, ty, pos, af, gd⟩ G s a w v s := by
  have h1 := h.see P src x
  have h0 : ∀ own sz l, s.see P src x = .slc own sz l → own = false := fun own sz l e => see_slc e
  unfold convV at hv
  generalize s.see P src x = u at hv h1 h0
  split at hv
  · rename_i k n k' n' hs hd
    obtain rfl := Option.some.inj hv
    refine OpOk.tr h (x := .int _ _) ?_ (Tr.int _ _)
    simp only [execOp]
    refine run_val ?_
    simp [convert, run_underlying hs, run_underlying hd, h1.int_inv, Conv.intToInt]
  · rename_i b hs hd
    obtain rfl := Option.some.inj hv
    refine OpOk.tr h (x := .string b) ?_ (Tr.str _)
    simp only [execOp]
    refine run_val ?_
    simp [convert, run_underlying hs, run_underlying hd, h1.str_inv]
  · rename_i e own sz l hs hd
    split at hv
    · rename_i ns he hm
      split at hv
      · rename_i hz
        subst hz
        obtain rfl := Option.some.inj hv
        obtain rfl := h0 _ _ _ rfl
        obtain ⟨hl, hn⟩ := mapOpt_spec hm
        rcases h1.slc_inv with ⟨rfl, A0, cap0, hx⟩ | ⟨b, o, cap, c, hx, hcap, hsz, hS, hT⟩
        · obtain rfl : ns = [] := List.eq_nil_of_length_eq_zero (by simpa using hl.symm)
          refine OpOk.tr h (x := .string (ofInts [])) ?_ (Tr.str _)
          simp only [execOp]
          refine run_val ?_
          rw [hx, run_convert_bytes_string w src dst e _ _ _ hs he hd]
          cases A0 <;> rfl
        · refine OpOk.tr h (x := .string (ofInts ns)) ?_ (Tr.str _)
          simp only [execOp]
          refine run_val ?_
          rw [hx, run_convert_bytes_string w src dst e _ _ _ hs he hd]
          refine run_bytesToString w _ _ _ ns ?_
          have := slc_cells h hS P
          rw [Nat.mul_one] at this
          rw [this]
          congr 2
          apply List.ext_getElem?
          intro i
          by_cases hi : i < l.length
          · have hi' : i < ns.length := by omega
            obtain ⟨y, hy, hy'⟩ := hn i _ (List.getElem?_eq_getElem hi)
            have := hT i 0 hi (by omega)
            rw [List.getElem?_map, List.getElem?_range (by simpa using hi), List.getElem?_map, hy]
            simp only [Option.map_some, Nat.div_one, Nat.mod_one]
            simp only [List.getD_eq_getElem?_getD, List.getElem?_eq_getElem hi, Option.getD_some] at this
            generalize l[i] = z at hy' this
            cases z <;> simp only [u8, reduceCtorEq] at hy'
            rename_i k m
            cases k <;> simp only [u8, reduceCtorEq, Option.some.injEq] at hy'
            subst hy'
            have := this.int_inv
            rw [this]
          · simp [List.getElem?_eq_none (show ns.length ≤ i by omega), hi]
      · cases hv
    · cases hv
  · cases hv
theorem op_makeFunc {f : Nat} {caps : Array Operand} {cs : List V} (h : Rel G s a w) (hc : mapOpt (fun x => match s.see P 0 x with | .ptr lv t off => some (V.ptr lv t off) | _ => none) caps.toList = some cs) :
    OpOk P ⟨d, .makeFunc (.func f) #[] caps, ty, pos, af, gd⟩ G s a w (.fn f cs) s := by
  obtain ⟨hl, hn⟩ := mapOpt_spec hc
  refine OpOk.tr h (x := .func (.func f) #[] (caps.map a.eval)) (by simp [execOp, Instr.makeFunc]) (Tr.fn _ _ _ (by simpa using hl.symm) fun i hi => ?_)
  have hi' : i < caps.size := by have := hl; simp at this; omega
  obtain ⟨y, hy, hy'⟩ := hn i caps[i] (by simp [hi'])
  have h1 := h.see P 0 caps[i]
  have e1 : cs.getD i .undef = y := by simp [List.getD_eq_getElem?_getD, hy]
  have e2 : (caps.map a.eval).getD i Go.undef = a.eval caps[i] := by simp [Array.getD, hi']
  rw [e1, e2]
  split at hy'
  · rename_i lv t off hs
    obtain rfl := Option.some.inj hy'
    rw [hs] at h1
    exact h1
  · cases hy'
end Go.Ev
