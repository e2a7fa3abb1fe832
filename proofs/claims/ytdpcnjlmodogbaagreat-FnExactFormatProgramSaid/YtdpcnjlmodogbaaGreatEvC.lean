/- The operations that only compute: cuts, conversions, functions, parts of a tuple, loads. Objects that change: variables in memory, rows that are written. New memory: rows, variables. -/
import Derived.Laws.BytesString
import Derived.Laws.Tables
import Derived.Laws.CopyRow
import Derived.Laws.IdiomRangeMap
import Derived.Test.YtdpcnjlmodogbaaGreatEvB
set_option linter.unusedVariables false
set_option linter.unusedSimpArgs false
namespace Go.Ev
open Go
set_option linter.unusedVariables false
set_option linter.unusedSimpArgs false
variable {P : Program} {G : Gh} {s : St} {a : Act} {w : World} {o : Oper}
variable {d : Option Nat} {ty : TypeId} {pos : String} {af : Array Edge} {gd : Option (Nat × Bool)}

theorem optInt_inv (h : Rel G s a w) {lo : Option Operand} {l : Option Int} (hl : optInt (lo.map (s.see P 0)) = some l) : (l = none ∧ lo.map a.eval = none) ∨ ∃ k n, l = some n ∧ lo.map a.eval = some (.int k n) := by
  cases lo with
  | none => simp [optInt] at hl; exact .inl ⟨hl.symm, rfl⟩
  | some x =>
    have h1 := h.see P 0 x
    simp only [Option.map_some] at hl
    generalize s.see P 0 x = u at hl h1
    cases u <;> simp only [optInt, reduceCtorEq, Option.some.injEq] at hl
    subst hl
    exact .inr ⟨_, _, rfl, by rw [Option.map_some, h1.int_inv]⟩
theorem bound_run {k : IntKind} {n : Int} {y : Nat} {code : BoundsCode} (h0 : 0 ≤ n) (h1 : n ≤ y) (w : World) : (Instr.sliceBound (.int k n) y code).run P w = .ok n.toNat w := by
  simp [Instr.sliceBound, asIntOf, h0, h1]
theorem bounds_run {lo hi mx : Option Value} {l h m : Option Int} {sl : Bool} {len cap : Nat} (hlo : (l = none ∧ lo = none) ∨ ∃ k n, l = some n ∧ lo = some (.int k n)) (hhi : (h = none ∧ hi = none) ∨ ∃ k n, h = some n ∧ hi = some (.int k n))
    (hmx : (m = none ∧ mx = none) ∨ ∃ k n, m = some n ∧ mx = some (.int k n)) (hc : len ≤ cap) (h0 : 0 ≤ l.getD 0) (h1 : l.getD 0 ≤ h.getD len) (h2 : h.getD len ≤ len) (h3 : ∀ n, m = some n → n = h.getD len ∧ h.isSome = true) (w : World) :
    (Instr.sliceBounds sl len cap lo hi mx).run P w = .ok ((l.getD 0).toNat, (h.getD len).toNat, (m.getD cap).toNat) w := by
  unfold Instr.sliceBounds
  rcases hmx with ⟨rfl, rfl⟩ | ⟨km, nm, rfl, rfl⟩
  · rcases hhi with ⟨rfl, rfl⟩ | ⟨kh, nh, rfl, rfl⟩ <;> rcases hlo with ⟨rfl, rfl⟩ | ⟨kl, nl, rfl, rfl⟩ <;> simp only [Option.getD_some, Option.getD_none] at h0 h1 h2 ⊢
    · simp
    · simp [bound_run h0 h1]
    · simp [bound_run (show (0:Int) ≤ nh by omega) (show nh ≤ (cap:Int) by omega)]
    · simp [bound_run (show (0:Int) ≤ nh by omega) (show nh ≤ (cap:Int) by omega), bound_run h0 (show nl ≤ (nh.toNat : Int) by omega)]
  · obtain ⟨e1, e2⟩ := h3 _ rfl
    rcases hhi with ⟨rfl, rfl⟩ | ⟨kh, nh, rfl, rfl⟩
    · cases e2
    · simp only [Option.getD_some] at e1 h1 h2
      subst e1
      rcases hlo with ⟨rfl, rfl⟩ | ⟨kl, nl, rfl, rfl⟩ <;> simp only [Option.getD_some, Option.getD_none] at h0 h1 ⊢
      · simp [bound_run (show (0:Int) ≤ nm by omega) (show nm ≤ (cap:Int) by omega), bound_run (show (0:Int) ≤ nm by omega) (show nm ≤ (nm.toNat : Int) by omega)]
      · simp [bound_run (show (0:Int) ≤ nm by omega) (show nm ≤ (cap:Int) by omega), bound_run (show (0:Int) ≤ nm by omega) (show nm ≤ (nm.toNat : Int) by omega), bound_run h0 (show nl ≤ (nm.toNat : Int) by omega)]
theorem mem_drop_take {α : Type} {l : List α} {i j : Nat} {x : α} (h : x ∈ (l.take i).drop j) : x ∈ l := List.mem_of_mem_take (List.mem_of_mem_drop h)
theorem op_slice {x : Operand} {lo hi mx : Option Operand} {t : TypeId} {l r m : Option Int} {v : V} (h : Rel G s a w) (hl : optInt (lo.map (s.see P 0)) = some l) (hr : optInt (hi.map (s.see P 0)) = some r) (hm : optInt (mx.map (s.see P 0)) = some m)
    (hv : sliceV P t (s.see P t x) l r m = some v) : OpOk P ⟨d, .slice t x lo hi mx, ty, pos, af, gd⟩ G s a w v s := by
  have h1 := h.see P t x
  have h0 : ∀ own sz l, s.see P t x = .slc own sz l → own = false := fun own sz l e => see_slc e
  have g1 := optInt_inv h hl
  have g2 := optInt_inv h hr
  have g3 := optInt_inv h hm
  unfold sliceV at hv
  generalize s.see P t x = u at hv h1 h0
  split at hv
  · rename_i b
    split at hv
    · cases hv
    · split at hv
      · rename_i hc
        obtain rfl := Option.some.inj hv
        have hu := isStr_spec hc.1
        refine OpOk.tr h (x := .string (b.extract (l.getD 0).toNat (r.getD b.size).toNat)) ?_ (Tr.str _)
        simp only [execOp]
        refine run_val ?_
        rcases g3 with ⟨_, e3⟩ | ⟨_, _, e3, _⟩
        · have := bounds_run (P := P) (sl := false) (len := b.size) (cap := b.size) (m := none) g1 g2 (.inl ⟨rfl, rfl⟩) (Nat.le_refl _) hc.2.1 hc.2.2.1 hc.2.2.2 (fun n e => by cases e) w
          simp only [Instr.sliceAt, Sem.run_bind, run_underlying hu, Result.andThen_ok, Instr.slice, h1.str_inv, e3]
          simp only [Option.isSome_none, Bool.false_eq_true, if_false, Sem.run_bind, Sem.run_pure, Result.andThen_ok]
          rw [this]
          rfl
        · cases e3
      · cases hv
  · rename_i own sz xs
    obtain rfl := h0 _ _ _ rfl
    split at hv
    · rename_i hc
      obtain ⟨hsl, hsz, hnz, hb0, hb1, hb2⟩ := hc
      obtain ⟨e, hu, he⟩ := isSl_spec hsl
      have hz : szOf P e ≠ 0 := by rw [← elemSz_ne hu, ← hsz]; exact hnz
      have hse : sz = szOf P e := by rw [hsz, elemSz_ne hu]
      have hm3 : ∀ n, m = some n → n = r.getD xs.length ∧ r.isSome = true := by
        rintro n rfl
        simp only at hv
        split at hv
        · assumption
        · cases hv
      -- what the machine gives
      have key : ∃ y cap', (Instr.sliceAt t (a.eval x) (lo.map a.eval) (hi.map a.eval) (mx.map a.eval)).run P w = .ok y w ∧ Tr G.S G.β (.slc false sz ((xs.take (r.getD xs.length).toNat).drop (l.getD 0).toNat)) y ∧ (∃ A, y = .slice A ((xs.take (r.getD xs.length).toNat).drop (l.getD 0).toNat).length cap') ∧ (m.isSome = true → cap' = ((xs.take (r.getD xs.length).toNat).drop (l.getD 0).toNat).length) := by
        have hlen : ((xs.take (r.getD xs.length).toNat).drop (l.getD 0).toNat).length = (r.getD xs.length).toNat - (l.getD 0).toNat := by simp; omega
        rcases h1.slc_inv with ⟨rfl, A0, cap0, hx⟩ | ⟨b, o, cap, c, hx, hcap, hs, hS, hT⟩
        · have hb := bounds_run (P := P) (sl := true) (len := 0) (cap := cap0) (m := m) g1 g2 g3 (Nat.zero_le _) hb0 hb1 hb2 hm3 w
          have hn : ([] : List V).length = 0 := rfl
          have e1 : (l.getD 0).toNat = 0 := by omega
          have e2 : (r.getD (([] : List V).length : Int)).toNat = 0 := by omega
          generalize hM : (m.getD ((cap0 : Nat) : Int)).toNat = M at hb
          have e2' : (r.getD ((0 : Nat) : Int)).toNat = 0 := e2
          rw [e1, e2'] at hb
          have hMs : m.isSome = true → M = 0 := by
            intro hms
            cases m with
            | none => cases hms
            | some n =>
              have h7 := (hm3 n rfl).1
              simp only [Option.getD_some] at hM
              have h8 : (r.getD (([] : List V).length : Int)) = r.getD ((0 : Nat) : Int) := rfl
              rw [h8] at h7
              omega
          refine ⟨.slice (A0.map fun a => if M = 0 then a else a.add (0 * szOf P e)) 0 M, M, ?_, ?_, ⟨_, by simp; rfl⟩, fun h => by simp [hMs h]⟩
          · simp only [Instr.sliceAt, Sem.run_bind, run_underlying hu, Result.andThen_ok, Instr.slice, hx, hb, run_sizeOf' hz, Sem.run_pure]
            simp
            cases A0 <;> simp
            split <;> rfl
          · simp only [List.take_nil, List.drop_nil]; exact Tr.slc0 _ _ _
        · have hb := bounds_run (P := P) (sl := true) (len := xs.length) (cap := cap) (m := m) g1 g2 g3 hcap hb0 hb1 hb2 hm3 w
          have hmc : (r.getD xs.length).toNat ≤ (m.getD cap).toNat := by
            cases m with
            | none => simp only [Option.getD_none]; omega
            | some n => have := (hm3 n rfl).1; simp only [Option.getD_some]; omega
          generalize hL : (l.getD 0).toNat = L at *
          generalize hR : (r.getD xs.length).toNat = R at *
          generalize hM : (m.getD cap).toNat = M at *
          have hLR : L ≤ R := by omega
          have hRx : R ≤ xs.length := by omega
          refine ⟨.slice (if M = L then some ⟨b, o, none⟩ else some ⟨b, o + L * szOf P e, none⟩) (R - L) (M - L), M - L, ?_, ?_, ⟨_, by rw [hlen]⟩, fun hms => ?_⟩
          · simp only [Instr.sliceAt, Sem.run_bind, run_underlying hu, Result.andThen_ok, Instr.slice, hx, hb, run_sizeOf' hz, Sem.run_pure, Option.map_some, add_eq]
          · have h5 : ((xs.take R).drop L).length ≤ M - L := by omega
            rw [← hlen]
            by_cases hML : M = L
            · have hnil : (xs.take R).drop L = [] := by
                apply List.eq_nil_of_length_eq_zero
                omega
              rw [if_pos hML, hnil]
              exact Tr.slc _ _ b o _ (fun _ _ => Go.undef) (Nat.zero_le _) (fun x hx => by cases hx) (fun i j hi => absurd hi (Nat.not_lt_zero _)) (fun i j hi => absurd hi (Nat.not_lt_zero _))
            · rw [if_neg hML]
              refine Tr.slc _ _ b _ _ (fun i j => c (L + i) j) h5 (fun x hx => hs x (mem_drop_take hx)) (fun i j hi hj => ?_) (fun i j hi hj => ?_)
              · have := hS (L + i) j (by omega) hj
                rw [Nat.add_mul, hse] at this
                rw [hse, show o + L * szOf P e + i * szOf P e + j = o + (L * szOf P e + i * szOf P e) + j by omega]
                exact this
              · have h6 : ((xs.take R).drop L).getD i .undef = xs.getD (L + i) .undef := by
                  simp only [List.getD_eq_getElem?_getD, List.getElem?_drop, List.getElem?_take]
                  rw [if_pos (by omega)]
                rw [h6]
                exact hT _ _ (by omega) hj
          · rw [hlen]
            cases m with
            | none => cases hms
            | some n =>
              have := (hm3 n rfl).1
              simp only [Option.getD_some] at hM
              omega
      obtain ⟨y, cap', k1, k2, ⟨A, k3⟩, k4⟩ := key
      split at hv
      · split at hv
        · obtain rfl := Option.some.inj hv
          exact ⟨y, w, G, by simp only [execOp]; exact run_val k1, h, ⟨k2, A, cap', k3, .inl (k4 rfl)⟩, Fr.refl _ _ _⟩
        · cases hv
      · obtain rfl := Option.some.inj hv
        exact OpOk.tr h (by simp only [execOp]; exact run_val k1) k2
    · cases hv
  · cases hv
theorem mapOpt_spec {α β : Type} {f : α → Option β} : ∀ {l : List α} {m : List β}, mapOpt f l = some m → l.length = m.length ∧ ∀ (i : Nat) (x : α), l[i]? = some x → ∃ y, m[i]? = some y ∧ f x = some y := by
  intro l
  induction l with
  | nil => intro m h; simp only [mapOpt, Option.some.injEq] at h; subst h; exact ⟨rfl, fun i x hx => by simp at hx⟩
  | cons a l ih =>
    intro m h
    simp only [mapOpt] at h
    split at h
    · rename_i b m' hb hm
      obtain rfl := Option.some.inj h
      obtain ⟨h1, h2⟩ := ih hm
      refine ⟨by simp [h1], fun i x hx => ?_⟩
      cases i with
      | zero => simp only [List.getElem?_cons_zero, Option.some.injEq] at hx; subst hx; exact ⟨b, rfl, hb⟩
      | succ i => exact h2 i x (by simpa using hx)
    · cases h
/-- the cells of a row that is read: what the machine loads -/
theorem slc_cells (h : Rel G s a w) {sz : Nat} {l : List V} {b o : Nat} {c : Nat → Nat → Value} (hS : ∀ i j, i < l.length → j < sz → G.S b (o + i * sz + j) = some (c i j)) (P : Program) :
    (loadCells ⟨b, o, none⟩ (l.length * sz)).run P w = .ok (((List.range (l.length * sz)).map fun k => c (k / sz) (k % sz)).toArray) w := by
  have := run_loadCells_list (P := P) (w := w) ⟨b, o, none⟩ ((List.range (l.length * sz)).map fun k => c (k / sz) (k % sz)) ?_
  · simpa using this
  · intro j v hj
    rw [List.getElem?_map] at hj
    cases hr : (List.range (l.length * sz))[j]? with
    | none => simp [hr] at hj
    | some k =>
      simp only [hr, Option.map_some, Option.some.injEq] at hj
      subst hj
      have hk : k = j ∧ j < l.length * sz := by
        rcases Nat.lt_or_ge j (l.length * sz) with h' | h'
        · rw [List.getElem?_range h'] at hr
          exact ⟨(Option.some.inj hr).symm, h'⟩
        · rw [List.getElem?_eq_none (by simpa using h')] at hr; cases hr
      obtain ⟨rfl, hlt⟩ := hk
      have hz : 0 < sz := by
        rcases Nat.eq_zero_or_pos sz with h0 | h0
        · subst h0; simp at hlt
        · exact h0
      have h1 : k / sz < l.length := Nat.div_lt_of_lt_mul (by rw [Nat.mul_comm]; exact hlt)
      have h2 : k % sz < sz := Nat.mod_lt _ hz
      have h3 := h.imm _ _ _ (hS _ _ h1 h2)
      rw [add_eq]
      rw [show o + k = o + k / sz * sz + k % sz by have := Nat.div_add_mod k sz; rw [Nat.mul_comm] at this; omega]
      exact h3
theorem op_convert {x : Operand} {src dst : TypeId} {v : V} (h : Rel G s a w) (hv : convV P src dst (s.see P src x) = some v) : OpOk P ⟨d, .convert src dst x, ty, pos, af, gd⟩ G s a w v s := by
  have h1 := h.see P src x
  have h0 : ∀ own sz l, s.see P src x = .slc own sz l → own = false := fun own sz l e => see_slc e
  unfold convV at hv
  generalize s.see P src x = u at hv h1 h0
  split at hv
  · rename_i k n k' n' hs hd
    obtain rfl := Option.some.inj hv
    refine OpOk.tr h (x := .int _ _) ?_ (Tr.int _ _)
    simp only [execOp]
    refine run_val ?_
    simp [convert, run_underlying hs, run_underlying hd, h1.int_inv, Conv.intToInt]
  · rename_i b hs hd
    obtain rfl := Option.some.inj hv
    refine OpOk.tr h (x := .string b) ?_ (Tr.str _)
    simp only [execOp]
    refine run_val ?_
    simp [convert, run_underlying hs, run_underlying hd, h1.str_inv]
  · rename_i e own sz l hs hd
    split at hv
    · rename_i ns he hm
      split at hv
      · rename_i hz
        subst hz
        obtain rfl := Option.some.inj hv
        obtain rfl := h0 _ _ _ rfl
        obtain ⟨hl, hn⟩ := mapOpt_spec hm
        rcases h1.slc_inv with ⟨rfl, A0, cap0, hx⟩ | ⟨b, o, cap, c, hx, hcap, hsz, hS, hT⟩
        · obtain rfl : ns = [] := List.eq_nil_of_length_eq_zero (by simpa using hl.symm)
          refine OpOk.tr h (x := .string (ofInts [])) ?_ (Tr.str _)
          simp only [execOp]
          refine run_val ?_
          rw [hx, run_convert_bytes_string w src dst e _ _ _ hs he hd]
          cases A0 <;> rfl
        · refine OpOk.tr h (x := .string (ofInts ns)) ?_ (Tr.str _)
          simp only [execOp]
          refine run_val ?_
          rw [hx, run_convert_bytes_string w src dst e _ _ _ hs he hd]
          refine run_bytesToString w _ _ _ ns ?_
          have := slc_cells h hS P
          rw [Nat.mul_one] at this
          rw [this]
          congr 2
          apply List.ext_getElem?
          intro i
          by_cases hi : i < l.length
          · have hi' : i < ns.length := by omega
            obtain ⟨y, hy, hy'⟩ := hn i _ (List.getElem?_eq_getElem hi)
            have := hT i 0 hi (by omega)
            rw [List.getElem?_map, List.getElem?_range (by simpa using hi), List.getElem?_map, hy]
            simp only [Option.map_some, Nat.div_one, Nat.mod_one]
            simp only [List.getD_eq_getElem?_getD, List.getElem?_eq_getElem hi, Option.getD_some] at this
            generalize l[i] = z at hy' this
            cases z <;> simp only [u8, reduceCtorEq] at hy'
            rename_i k m
            cases k <;> simp only [u8, reduceCtorEq, Option.some.injEq] at hy'
            subst hy'
            have := this.int_inv
            rw [this]
          · simp [List.getElem?_eq_none (show ns.length ≤ i by omega), hi]
      · cases hv
    · cases hv
  · cases hv
theorem op_makeFunc {f : Nat} {caps : Array Operand} {cs : List V} (h : Rel G s a w) (hc : mapOpt (fun x => match s.see P 0 x with | .ptr lv t off => some (V.ptr lv t off) | _ => none) caps.toList = some cs) :
    OpOk P ⟨d, .makeFunc (.func f) #[] caps, ty, pos, af, gd⟩ G s a w (.fn f cs) s := by
  obtain ⟨hl, hn⟩ := mapOpt_spec hc
  refine OpOk.tr h (x := .func (.func f) #[] (caps.map a.eval)) (by simp [execOp, Instr.makeFunc]) (Tr.fn _ _ _ (by simpa using hl.symm) fun i hi => ?_)
  have hi' : i < caps.size := by have := hl; simp at this; omega
  obtain ⟨y, hy, hy'⟩ := hn i caps[i] (by simp [hi'])
  have h1 := h.see P 0 caps[i]
  have e1 : cs.getD i .undef = y := by simp [List.getD_eq_getElem?_getD, hy]
  have e2 : (caps.map a.eval).getD i Go.undef = a.eval caps[i] := by simp [Array.getD, hi']
  rw [e1, e2]
  split at hy'
  · rename_i lv t off hs
    obtain rfl := Option.some.inj hy'
    rw [hs] at h1
    exact h1
  · cases hy'
end Go.Ev
namespace Go.Ev
open Go
set_option linter.unusedVariables false
set_option linter.unusedSimpArgs false
variable {P : Program} {G : Gh} {s : St} {a : Act} {w : World} {o : Oper}
variable {d : Option Nat} {ty : TypeId} {pos : String} {af : Array Edge} {gd : Option (Nat × Bool)}

theorem setIn_length (t : Nat) (ob : Ob) (lv : Nat) : ∀ o : List (Nat → Option Ob), (setIn t ob lv o).length = o.length := by
  intro o
  induction o with
  | nil => rfl
  | cons f o ih => simp only [setIn]; split <;> simp [ih]
theorem obIn_setIn (t : Nat) (ob : Ob) (lv : Nat) : ∀ (o : List (Nat → Option Ob)) (t' lv' : Nat), (∃ x, obIn t lv o = some x) → obIn t' lv' (setIn t ob lv o) = if lv' = lv ∧ t' = t then some ob else obIn t' lv' o := by
  intro o
  induction o with
  | nil => intro t' lv' h; obtain ⟨x, hx⟩ := h; cases hx
  | cons f o ih =>
    intro t' lv' h
    simp only [setIn]
    by_cases h1 : lv = o.length
    · rw [if_pos h1]
      simp only [obIn]
      by_cases h2 : lv' = o.length
      · rw [if_pos h2, if_pos h2]
        by_cases h3 : t' = t
        · simp [upd, h3, h1, h2]
        · simp [upd, h3]
      · rw [if_neg h2, if_neg h2]
        rw [if_neg (fun e => h2 (e.1.trans h1))]
    · rw [if_neg h1]
      simp only [obIn, setIn_length]
      by_cases h2 : lv' = o.length
      · rw [if_pos h2, if_pos h2, if_neg (fun e => h1 (e.1.symm.trans h2))]
      · rw [if_neg h2, if_neg h2]
        refine ih t' lv' ?_
        obtain ⟨x, hx⟩ := h
        simp only [obIn, if_neg h1] at hx
        exact ⟨x, hx⟩
theorem setOb_lv (lv u : Nat) (ob : Ob) : (s.setOb lv u ob).lv = s.lv := by
  unfold St.setOb St.lv
  split
  · rfl
  · exact setIn_length _ _ _ _
theorem setOb_t (lv u : Nat) (ob : Ob) : (s.setOb lv u ob).t = s.t := by unfold St.setOb; split <;> rfl
theorem setOb_n (lv u : Nat) (ob : Ob) : (s.setOb lv u ob).n = s.n := by unfold St.setOb; split <;> rfl
theorem ob_setOb {lv u : Nat} {old : Ob} (h : s.ob lv u = some old) (ob : Ob) (lv' t' : Nat) : (s.setOb lv u ob).ob lv' t' = if lv' = lv ∧ t' = u then some ob else s.ob lv' t' := by
  unfold St.setOb
  unfold St.ob at h ⊢
  by_cases h1 : lv = s.o.length
  · rw [if_pos h1]
    simp only [obIn]
    by_cases h2 : lv' = s.o.length
    · rw [if_pos h2, if_pos h2]
      by_cases h3 : t' = u
      · simp [upd, h3, h1, h2]
      · simp [upd, h3]
    · rw [if_neg h2, if_neg h2, if_neg (fun e => h2 (e.1.trans h1))]
  · rw [if_neg h1]
    simp only [obIn, setIn_length]
    by_cases h2 : lv' = s.o.length
    · rw [if_pos h2, if_pos h2, if_neg (fun e => h1 (e.1.symm.trans h2))]
    · rw [if_neg h2, if_neg h2]
      refine obIn_setIn u ob lv s.o t' lv' ⟨old, ?_⟩
      simpa only [obIn, if_neg h1] using h
/-- an object has turned; what else was said stands -/
theorem Rel.setOb {G G' : Gh} {w w' : World} (h : Rel G s a w) {lv u g : Nat} {old ob : Ob} (ho : s.ob lv u = some old) (hg : G.β lv u = some g) (hgo : G.ω g = some (.ob lv u)) (hle : Le G G') (hβ : G'.β = G.β)
    (hs : ∀ k p, k ≠ g → (∀ j, p ≠ .cl lv u j) → (∀ c j, p ≠ .rs c j) → G.ω k = some p → w'.heap[k]? = w.heap[k]? ∧ (∀ j, G'.S k j = G.S k j) ∧ G'.ω k = some p)
    (himm : ∀ g j c, G'.S g j = some c → w'.cell? ⟨g, j, none⟩ = some c) (hlim : ∀ g p, G'.ω g = some p → g < w'.heap.size) (hgω : G'.ω g = some (.ob lv u)) (hnew : ObR G' w' lv u g ob) : Rel G' (s.setOb lv u ob) a w' := by
  refine ⟨by rw [setOb_n]; exact h.size, h.defers, fun t => ?_, fun lv' t' ob' hob => ?_, fun lv' t' g' hg' => ?_, himm, hlim⟩
  · rw [setOb_t, setOb_lv]
    refine (h.slot t).mono hle fun c j k hk => ?_
    exact hs k _ (by rintro rfl; rw [hgo] at hk; cases hk) (fun j e => by cases e) (fun _ _ e => by cases e) hk
  · rw [ob_setOb ho] at hob
    split at hob
    · rename_i he
      obtain ⟨rfl, rfl⟩ := he
      obtain rfl := Option.some.inj hob
      exact ⟨g, by rw [hβ]; exact hg, hgω, hnew⟩
    · rename_i hne
      obtain ⟨g', h1, h2, h3⟩ := h.obj lv' t' ob' hob
      have hgg : g' ≠ g := by
        rintro rfl
        rw [hgo] at h2
        cases h2
        exact hne ⟨rfl, rfl⟩
      obtain ⟨k1, k2, k3⟩ := hs g' _ hgg (fun j e => by cases e) (fun _ _ e => by cases e) h2
      refine ⟨g', by rw [hβ]; exact h1, k3, h3.mono hle ⟨k1, k2⟩ fun j k hk => ?_⟩
      refine hs k _ (by rintro rfl; rw [hgo] at hk; cases hk) (fun j' e => ?_) (fun _ _ e => by cases e) hk
      cases e
      exact hne ⟨rfl, rfl⟩
  · rw [ob_setOb ho]
    split
    · exact ⟨_, rfl⟩
    · exact h.dom lv' t' g' (by rw [← hβ]; exact hg')

theorem loadVar_run {t : TypeId} (hz : szOf P t ≠ 0) {b o : Nat} {c : Nat → Value} (hc : ∀ j, j < szOf P t → w.cell? ⟨b, o + j, none⟩ = some (c j)) :
    ∃ x, (loadVar t ⟨b, o, none⟩).run P w = .ok x w ∧ x = if isAgg P t = true then .agg ((List.range (szOf P t)).map c).toArray else c 0 := by
  obtain ⟨i, d, h1, h2, h3, h4⟩ := szOf_ne hz
  unfold loadVar
  simp only [Sem.run_bind, run_isAgg' (P := P) (t := t) (by rw [h2]; rfl), Result.andThen_ok]
  by_cases ha : isAgg P t = true
  · have hl := run_loadCells_list (P := P) (w := w) ⟨b, o, none⟩ ((List.range (szOf P t)).map c) (fun j v hj => by
      rw [List.getElem?_map] at hj
      rcases Nat.lt_or_ge j (szOf P t) with h' | h'
      · rw [List.getElem?_range h', Option.map_some, Option.some.injEq] at hj
        subst hj
        rw [add_eq]
        exact hc j h'
      · rw [List.getElem?_eq_none (by simpa using h')] at hj; cases hj)
    rw [List.length_map, List.length_range] at hl
    simp only [ha, if_true, Sem.run_bind, run_sizeOf' hz, Result.andThen_ok, hl, Sem.run_pure]
    exact ⟨_, rfl, rfl⟩
  · have h0 : w.cell? ⟨b, o, none⟩ = some (c 0) := hc 0 (by omega)
    simp only [ha, Bool.false_eq_true, if_false, run_load, h0]
    exact ⟨_, rfl, rfl⟩
theorem pack_own {p : Nat → Pl} {l : List V} {c : Nat → Value} {ag : Bool} {x : Value} {n : Nat} (hn : 0 < n) (hl : l.length = n) (hT : ∀ j, j < n → OwnC G w (p j) (l.getD j .undef) (c j)) (hx : x = if ag = true then .agg ((List.range n).map c).toArray else c 0) : OwnV G w p (pack ag l) x := by
  subst hx
  cases ag
  · have := hT 0 hn
    simp only [pack, Bool.false_eq_true, if_false]
    cases l with
    | nil => simp at hl; omega
    | cons v l =>
      show OwnV G w p v (c 0)
      simp only [List.getD_cons_zero] at this
      cases v
      case agg m =>
        have h1 : Tr G.S G.β (.agg m) (c 0) := this
        exact OwnV.of_tr' h1
      all_goals exact this
  · simp only [pack, if_true]
    refine ⟨_, rfl, by simp [hl], fun i hi => ?_⟩
    have hi' : i < n := by omega
    have : ((List.range n).map c).toArray.getD i Go.undef = c i := by simp [Array.getD, hi']
    rw [this]
    exact hT i hi'
theorem OwnV.toS {p : Nat → Nat → Pl} {v : V} {x : Value} (h : OwnV G w (p 0) v x) (ht : ∀ l, v ≠ .tup l) : OwnS G w p v x := by
  cases v
  case tup l => exact absurd rfl (ht l)
  all_goals exact h
theorem getD_setL (l c : List V) (off j : Nat) (h : off + c.length ≤ l.length) : (setL l off c).getD j .undef = if off ≤ j ∧ j < off + c.length then c.getD (j - off) .undef else l.getD j .undef := by
  simp only [setL, List.getD_eq_getElem?_getD, List.append_assoc]
  by_cases h1 : j < off
  · rw [List.getElem?_append_left (by simp; omega), List.getElem?_take, if_pos h1, if_neg (by omega)]
  · rw [List.getElem?_append_right (by simp; omega)]
    simp only [List.length_take, Nat.min_eq_left (show off ≤ l.length by omega)]
    by_cases h2 : j - off < c.length
    · rw [List.getElem?_append_left h2, if_pos (by omega)]
    · rw [List.getElem?_append_right (by omega), if_neg (by omega), List.getElem?_drop]
      congr 2
      omega
theorem length_setL (l c : List V) (off : Nat) (h : off + c.length ≤ l.length) : (setL l off c).length = l.length := by
  simp [setL]; omega
def outF (lv u off n : Nat) : Pl → Pl
  | .cl l t j => if l = lv ∧ t = u ∧ off ≤ j ∧ j < off + n then .rs 0 (j - off) else .cl l t j
  | p => p
theorem pack_tup {ag : Bool} {l : List V} {n : Nat} (hl : l.length = n) (hn : 0 < n) (h : ∀ j m, j < n → l.getD j .undef ≠ .tup m) : ∀ m, pack ag l ≠ .tup m := by
  intro m
  cases ag
  · cases l with
    | nil => simp at hl; omega
    | cons v l => exact h 0 m hn
  · intro e; cases e
theorem OwnC.tup {p : Pl} {m : List V} {x : Value} (h : OwnC G w p (.tup m) x) : False := by cases h
theorem flat_agg_or (v : V) : (∃ l, v = .agg l) ∨ ((∀ l, v ≠ .agg l) ∧ v.flat = [v]) := by
  cases v
  case agg l => exact .inl ⟨l, rfl⟩
  all_goals exact .inr ⟨fun l e => (by cases e), rfl⟩
/-- the same, the world standing still -/
def OpOkS (P : Program) (o : Oper) (G : Gh) (s : St) (a : Act) (w : World) (v : V) (s1 : St) : Prop :=
  ∃ x G', (execOp a.eval o).run P w = .ok (.value x) w ∧ Rel G' s1 a w ∧ OwnS G' w Pl.rs v x ∧ Fr s.lv G w G' w
theorem OpOkS.tr (h : Rel G s a w) {v : V} {x : Value} (hr : (execOp a.eval o).run P w = .ok (.value x) w) (hT : Tr G.S G.β v x) : OpOkS P o G s a w v s :=
  ⟨x, G, hr, h, OwnS.of_tr' hT, Fr.refl _ _ _⟩
theorem op_loadS {x : Operand} {t : TypeId} {tk : Bool} {v : V} {s1 : St} (h : Rel G s a w) (hv : vLoad P s tk t (s.see P 0 x) = some (v, s1)) : OpOkS P ⟨d, .load t x, ty, pos, af, gd⟩ G s a w v s1 := by
  have h1 := h.see P 0 x
  unfold vLoad at hv
  generalize s.see P 0 x = u at hv h1
  have hrun : ∀ b o y w', a.eval x = .pointer (some ⟨b, o, none⟩) → (loadVar t ⟨b, o, none⟩).run P w = .ok y w' → (execOp a.eval ⟨d, .load t x, ty, pos, af, gd⟩).run P w = .ok (.value y) w' := by
    intro b o y w' hx hl
    simp only [execOp]
    refine run_val ?_
    simp only [Instr.loadAt, hx, Instr.sureAddr, Sem.run_bind, Sem.run_pure, Result.andThen_ok, hl]
  split at hv
  · rename_i lv u off
    obtain ⟨g, hg, hx⟩ := h1.ptr_inv
    split at hv
    · rename_i cs ho
      split at hv
      · rename_i hc
        obtain ⟨g', hg', hω, en, ety, hb, hl, hS, hT⟩ := h.obj lv u _ ho
        obtain rfl : g' = g := by rw [hg] at hg'; exact (Option.some.inj hg').symm
        obtain ⟨y, hy, hy'⟩ := loadVar_run (P := P) (w := w) hc.2 (b := g') (o := off) (c := fun j => en.getD (off + j) Go.undef) (fun j hj => by
          have : off + j < en.size := by omega
          simp [World.cell?, hb, Array.getD, this])
        split at hv
        · obtain ⟨rfl, rfl⟩ := Prod.mk.inj (Option.some.inj hv)
          have hlen : ((cs.drop off).take (szOf P t)).length = szOf P t := by simp; omega
          have hle : Le G (G.ren (outF lv u off (szOf P t))) := G.ren_le _
          have hown : OwnV (G.ren (outF lv u off (szOf P t))) w (Pl.rs 0) (pack (isAgg P t) ((cs.drop off).take (szOf P t))) y :=
            pack_own (by omega) hlen (fun j hj => by
              rw [getD_drop_take _ _ _ _ hj]
              exact (hT (off + j) (by omega)).ren _ (by simp only [outF]; rw [if_pos ⟨trivial, trivial, by omega, by omega⟩]; congr 1; omega)) hy'
          refine ⟨y, G.ren (outF lv u off (szOf P t)), hrun _ _ _ _ hx hy, ?_, OwnV.toS hown (pack_tup hlen (by omega) fun j m hj e => ?_), ren_fr fun p => ?_⟩
          · refine h.setOb ho hg hω hle rfl (fun k p hk hp _ hpk => ⟨rfl, fun _ => rfl, ?_⟩) h.imm (ren_lim h.lim) (by rw [ren_ω hω]; rfl) ?_
            · rw [ren_ω hpk]
              congr 1
              cases p with
              | cl l t' j =>
                simp only [outF]
                split
                · rename_i hh
                  exact absurd (by rw [hh.1, hh.2.1]) (hp j)
                · rfl
              | _ => rfl
            · have hlm : (((cs.drop off).take (szOf P t)).map V.viewC).length = szOf P t := by rw [List.length_map, hlen]
              refine ⟨en, ety, hb, by rw [length_setL _ _ _ (by rw [hlm]; omega)]; exact hl, hS, fun j hj => ?_⟩
              rw [length_setL _ _ _ (by rw [hlm]; omega)] at hj
              rw [getD_setL _ _ _ _ (by rw [hlm]; omega), hlm]
              split
              · rename_i hh
                rw [getD_viewC, getD_drop_take _ _ _ _ (by omega), show off + (j - off) = j by omega]
                exact OwnC.of_tr (hle.tr (hT j hj).view)
              · rename_i hh
                exact (hT j hj).ren _ (by simp only [outF]; rw [if_neg (fun e => hh ⟨e.2.2.1, e.2.2.2⟩)])
          · rw [getD_drop_take _ _ _ _ hj] at e
            have := hT (off + j) (by omega)
            rw [e] at this
            exact this.tup
          · cases p with
            | cl l t' j => exact .inr trivial
            | _ => exact .inl rfl
        · obtain ⟨rfl, rfl⟩ := Prod.mk.inj (Option.some.inj hv)
          refine OpOkS.tr h (hrun _ _ _ _ hx hy) (pack_tr (n := szOf P t) (by omega) (by simp; omega) (fun j hj => ?_) hy')
          rw [getD_viewC, getD_drop_take _ _ _ _ hj]
          exact (hT (off + j) (by omega)).view
      · cases hv
    · cases hv
  · rename_i l
    split at hv
    · rename_i hc
      obtain ⟨rfl, rfl⟩ := Prod.mk.inj (Option.some.inj hv)
      obtain ⟨b, o, c, hx, _, hS, hT⟩ := h1.imp_inv
      obtain ⟨y, hy, hy'⟩ := loadVar_run (P := P) (w := w) hc.2 (b := b) (o := o) (c := c) (fun j hj => h.imm _ _ _ (hS j (by omega)))
      refine OpOkS.tr h (hrun _ _ _ _ hx hy) (pack_tr (n := szOf P t) (by omega) (by simp; omega) (fun j hj => ?_) hy')
      have := hT j (by omega)
      simpa [List.getD_eq_getElem?_getD, List.getElem?_take, hj] using this
    · cases hv
  · rename_i lv u i sz
    obtain ⟨g, hg, hx⟩ := h1.eptr_inv
    split at hv
    · rename_i fz sz' l ho
      split at hv
      · rename_i hc
        obtain ⟨rfl, rfl, hz, hi⟩ := hc
        obtain ⟨rfl, rfl⟩ := Prod.mk.inj (Option.some.inj hv)
        obtain ⟨g', hg', hω, en, ety, hb, hl, hs, hT, _⟩ := h.obj lv u _ ho
        obtain rfl : g' = g := by rw [hg] at hg'; exact (Option.some.inj hg').symm
        have hfl : (l.getD i .undef).flat.length = szOf P t := by
          refine (hs _ ?_).1
          rw [List.getD_eq_getElem?_getD, List.getElem?_eq_getElem hi]
          exact List.getElem_mem hi
        have hle : i * szOf P t + szOf P t ≤ en.size := by
          refine Nat.le_trans ?_ hl
          calc i * szOf P t + szOf P t = (i + 1) * szOf P t := by rw [Nat.succ_mul]
            _ ≤ l.length * szOf P t := Nat.mul_le_mul_right _ hi
        obtain ⟨y, hy, hy'⟩ := loadVar_run (P := P) (w := w) hz (b := g') (o := i * szOf P t) (c := fun j => en.getD (i * szOf P t + j) Go.undef) (fun j hj => by
          have : i * szOf P t + j < en.size := by omega
          simp [World.cell?, hb, Array.getD, this])
        exact OpOkS.tr h (hrun _ _ _ _ hx hy) (pack_tr (n := szOf P t) (by omega) hfl (fun j hj => hT i j hi hj) hy')
      · cases hv
    · cases hv
  · cases hv
theorem op_load {x : Operand} {t : TypeId} {tk : Bool} {v : V} {s1 : St} (h : Rel G s a w) (hv : vLoad P s tk t (s.see P 0 x) = some (v, s1)) : OpOk P ⟨d, .load t x, ty, pos, af, gd⟩ G s a w v s1 :=
  let ⟨x, G', h1, h2⟩ := op_loadS h hv
  ⟨x, w, G', h1, h2⟩
end Go.Ev
namespace Go.Ev
open Go
set_option linter.unusedVariables false
set_option linter.unusedSimpArgs false
variable {P : Program} {G : Gh} {s : St} {a : Act} {w : World} {o : Oper}
variable {d : Option Nat} {ty : TypeId} {pos : String} {af : Array Edge} {gd : Option (Nat × Bool)}

theorem imm_lt (h : Rel G s a w) {g j : Nat} {c : Value} (hS : G.S g j = some c) : g < w.heap.size := by
  have := h.imm _ _ _ hS
  unfold World.cell? at this
  split at this
  · rename_i hb
    exact (Array.getElem?_eq_some_iff.1 hb).1
  · cases this
theorem ω_new (h : Rel G s a w) : G.ω w.heap.size = none := by
  cases hω : G.ω w.heap.size with
  | none => rfl
  | some p => exact absurd (h.lim _ _ hω) (Nat.lt_irrefl _)
theorem S_new (h : Rel G s a w) (j : Nat) : G.S w.heap.size j = none := by
  cases hS : G.S w.heap.size j with
  | none => rfl
  | some p => exact absurd (imm_lt h hS) (Nat.lt_irrefl _)

theorem alloc_old (w : World) (o : Obj) {r : Nat} (h : r < w.heap.size) : (w.alloc o).heap[r]? = w.heap[r]? := by
  show (w.heap.push o)[r]? = w.heap[r]?
  rw [Array.getElem?_push, if_neg (Nat.ne_of_lt h)]
/-- a new row: its first n cells never change, the rest is the value's own -/
def Gh.row (G : Gh) (g n : Nat) (cs : Array Value) (p : Pl) : Gh where
  S := fun k j => if k = g then (if j < n then cs[j]? else none) else G.S k j
  β := G.β
  ω := upd G.ω g (some p)
theorem Rel.allocRow (h : Rel G s a w) (n : Nat) (cs : Array Value) (e : TypeId) (p : Pl) :
    Rel (G.row w.heap.size n cs p) s a (w.alloc (.cells cs e)) ∧ Le G (G.row w.heap.size n cs p) ∧ Fr s.lv G w (G.row w.heap.size n cs p) (w.alloc (.cells cs e)) ∧
    (∀ k q, G.ω k = some q → (w.alloc (.cells cs e)).heap[k]? = w.heap[k]? ∧ (∀ j, (G.row w.heap.size n cs p).S k j = G.S k j) ∧ (G.row w.heap.size n cs p).ω k = some q) := by
  have hle : Le G (G.row w.heap.size n cs p) := ⟨fun g j c hc => by
    show (if g = w.heap.size then _ else _) = _
    rw [if_neg (Nat.ne_of_lt (imm_lt h hc))]; exact hc, fun _ _ _ hb => hb⟩
  have hs : ∀ k q, G.ω k = some q → (w.alloc (.cells cs e)).heap[k]? = w.heap[k]? ∧ (∀ j, (G.row w.heap.size n cs p).S k j = G.S k j) ∧ (G.row w.heap.size n cs p).ω k = some q := by
    intro k q hk
    have hlt := h.lim _ _ hk
    refine ⟨alloc_old w _ hlt, fun j => ?_, ?_⟩
    · show (if k = w.heap.size then _ else _) = _
      rw [if_neg (Nat.ne_of_lt hlt)]
    · show (if k = w.heap.size then _ else _) = _
      rw [if_neg (Nat.ne_of_lt hlt)]; exact hk
  refine ⟨h.grow hle rfl (fun g p _ => hs g p) (fun g j c hc => ?_) (fun g q hq => ?_), hle, ⟨rfl, rfl, rfl, by simp, fun g hg hm => ⟨alloc_old w _ hg, ?_, fun j => ?_⟩, hle.S, fun _ _ _ => rfl⟩, hs⟩
  · have hc' : (if g = w.heap.size then (if j < n then cs[j]? else none) else G.S g j) = some c := hc
    split at hc'
    · rename_i hg
      subst hg
      split at hc'
      · simp only [World.cell?, heap_alloc_new]; exact hc'
      · cases hc'
    · rw [World.cell?_alloc_lt w _ _ (imm_lt h hc')]
      exact h.imm _ _ _ hc'
  · have hq' : (if g = w.heap.size then some p else G.ω g) = some q := hq
    split at hq'
    · rename_i hg; subst hg; simp
    · have := h.lim _ _ hq'; simp; omega
  · show (if g = w.heap.size then _ else _) = _
    rw [if_neg (Nat.ne_of_lt hg)]
  · show (if g = w.heap.size then _ else _) = _
    rw [if_neg (Nat.ne_of_lt hg)]

/-- a list of elements laid out, cell by cell -/
def Laid (G : Gh) (sz : Nat) (l : List V) (cs : Array Value) : Prop := l.length * sz ≤ cs.size ∧ (∀ x ∈ l, x.flat.length = sz ∧ x.flat.all pureC = true) ∧ ∀ i j, i < l.length → j < sz → Tr G.S G.β ((l.getD i .undef).flat.getD j .undef) (cs.getD (i * sz + j) Go.undef)
theorem Laid.mono {G' : Gh} {sz : Nat} {l : List V} {cs : Array Value} (h : Laid G sz l cs) (hle : Le G G') : Laid G' sz l cs := ⟨h.1, h.2.1, fun i j hi hj => hle.tr (h.2.2 i j hi hj)⟩
theorem cell_lt {i j sz n : Nat} (hi : i < n) (hj : j < sz) : i * sz + j < n * sz := by
  calc i * sz + j < i * sz + sz := by omega
    _ = (i + 1) * sz := by rw [Nat.succ_mul]
    _ ≤ n * sz := Nat.mul_le_mul_right _ hi
/-- a new row of elements, as a value of its own -/
theorem Rel.newRow (h : Rel G s a w) {sz cap : Nat} {l : List V} {cs : Array Value} (hl : Laid G sz l cs) (hcap : cs.size = cap * sz) (hc : l.length ≤ cap) (e : TypeId) :
    ∃ G', Rel G' s a (w.alloc (.cells cs e)) ∧ OwnS G' (w.alloc (.cells cs e)) Pl.rs (.slc true sz l) (.slice (some ⟨w.heap.size, 0, none⟩) l.length cap) ∧ Fr s.lv G w G' (w.alloc (.cells cs e)) := by
  obtain ⟨h1, h2, h3, _⟩ := h.allocRow (l.length * sz) cs e (.rs 0 0)
  refine ⟨_, h1, ⟨Tr.slc sz l _ 0 cap (fun i j => cs.getD (i * sz + j) Go.undef) hc hl.2.1 (fun i j hi hj => ?_) (fun i j hi hj => h2.tr (hl.2.2 i j hi hj)), _, cap, rfl, .inr ⟨w.heap.size, cs, e, rfl, ?_, heap_alloc_new _ _, hcap, fun j hj => ?_⟩⟩, h3⟩
  · show (if w.heap.size = w.heap.size then _ else _) = _
    have h5 := cell_lt hi hj
    have h6 : i * sz + j < cs.size := Nat.lt_of_lt_of_le h5 hl.1
    rw [if_pos rfl, Nat.zero_add, if_pos h5, Array.getElem?_eq_getElem h6, getD_array_of h6]
  · show (if w.heap.size = w.heap.size then _ else _) = _
    rw [if_pos rfl]
  · show (if w.heap.size = w.heap.size then _ else _) = _
    rw [if_pos rfl, if_neg (by omega)]

/-- a new object -/
def Gh.obj (G : Gh) (lv t g : Nat) : Gh where
  S := G.S
  β := fun l u => if l = lv ∧ u = t then some g else G.β l u
  ω := upd G.ω g (some (.ob lv t))
theorem β_none (h : Rel G s a w) {lv t : Nat} (ho : s.ob lv t = none) : G.β lv t = none := by
  cases hb : G.β lv t with
  | none => rfl
  | some g => obtain ⟨ob, hob⟩ := h.dom _ _ _ hb; rw [ho] at hob; cases hob
theorem ob_b (t : Nat) : s.ob s.lv t = s.b t := by simp [St.ob, obIn, St.lv]
theorem ob_upd (dd : Nat) (ob : Ob) (lv t : Nat) : ({ s with b := upd s.b dd (some ob) } : St).ob lv t = if lv = s.lv ∧ t = dd then some ob else s.ob lv t := by
  simp only [St.ob, obIn, St.lv]
  by_cases h1 : lv = s.o.length
  · simp only [h1, if_true, true_and, upd]
  · simp [h1]
theorem Rel.allocOb (h : Rel G s a w) {dd : Nat} (hd : s.b dd = none) (o : Obj) (ob : Ob) (hnew : ∀ w', w' = w.alloc o → Le G (G.obj s.lv dd w.heap.size) → (∀ k q, G.ω k = some q → w'.heap[k]? = w.heap[k]? ∧ (∀ j, (G.obj s.lv dd w.heap.size).S k j = G.S k j) ∧ (G.obj s.lv dd w.heap.size).ω k = some q) →
      (∀ j, (G.obj s.lv dd w.heap.size).S w.heap.size j = none) → ObR (G.obj s.lv dd w.heap.size) w' s.lv dd w.heap.size ob) :
    Rel (G.obj s.lv dd w.heap.size) { s with b := upd s.b dd (some ob) } a (w.alloc o) ∧ Fr s.lv G w (G.obj s.lv dd w.heap.size) (w.alloc o) ∧ (G.obj s.lv dd w.heap.size).β s.lv dd = some w.heap.size := by
  have hβ := β_none h (lv := s.lv) (t := dd) (by rw [ob_b]; exact hd)
  have hle : Le G (G.obj s.lv dd w.heap.size) := ⟨fun _ _ _ hc => hc, fun l u g hg => by
    show (if l = s.lv ∧ u = dd then _ else _) = _
    rw [if_neg (by rintro ⟨rfl, rfl⟩; rw [hβ] at hg; cases hg)]; exact hg⟩
  have hs : ∀ k q, G.ω k = some q → (w.alloc o).heap[k]? = w.heap[k]? ∧ (∀ j, (G.obj s.lv dd w.heap.size).S k j = G.S k j) ∧ (G.obj s.lv dd w.heap.size).ω k = some q := by
    intro k q hk
    have hlt := h.lim _ _ hk
    refine ⟨alloc_old w _ hlt, fun j => rfl, ?_⟩
    show (if k = w.heap.size then _ else _) = _
    rw [if_neg (Nat.ne_of_lt hlt)]; exact hk
  refine ⟨⟨h.size, h.defers, fun t => (h.slot t).mono hle fun c j k hk => hs k _ hk, fun lv t ob' hob => ?_, fun lv t g hg => ?_, fun g j c hc => ?_, fun g q hq => ?_⟩, ⟨rfl, rfl, rfl, by simp, fun g hg hm => ⟨alloc_old w _ hg, ?_, fun j => rfl⟩, fun _ _ _ hc => hc, fun l t hl => ?_⟩, ?_⟩
  · rw [ob_upd] at hob
    split at hob
    · rename_i he
      obtain ⟨rfl, rfl⟩ := he
      obtain rfl := Option.some.inj hob
      refine ⟨w.heap.size, ?_, ?_, hnew _ rfl hle hs (fun j => S_new h j)⟩
      · show (if _ ∧ _ then _ else _) = _; rw [if_pos ⟨rfl, rfl⟩]
      · show (if _ = _ then _ else _) = _; rw [if_pos rfl]
    · obtain ⟨g, h1, h2, h3⟩ := h.obj lv t ob' hob
      obtain ⟨k1, k2, k3⟩ := hs g _ h2
      exact ⟨g, hle.β _ _ _ h1, k3, h3.mono hle ⟨k1, k2⟩ fun j k hk => hs k _ hk⟩
  · rw [ob_upd]
    split
    · exact ⟨_, rfl⟩
    · rename_i hne
      have hg' : (if lv = s.lv ∧ t = dd then some w.heap.size else G.β lv t) = some g := hg
      rw [if_neg hne] at hg'
      exact h.dom _ _ _ hg'
  · have hlt := imm_lt h hc
    rw [World.cell?_alloc_lt w _ _ hlt]
    exact h.imm _ _ _ hc
  · have hq' : (if g = w.heap.size then some (Pl.ob s.lv dd) else G.ω g) = some q := hq
    split at hq'
    · rename_i hg; subst hg; simp
    · have := h.lim _ _ hq'; simp; omega
  · show (if g = w.heap.size then _ else _) = _
    rw [if_neg (Nat.ne_of_lt hg)]
  · show (if l = s.lv ∧ t = dd then _ else _) = _
    rw [if_neg (fun e => absurd e.1 (Nat.ne_of_lt hl))]
  · show (if _ ∧ _ then _ else _) = _
    rw [if_pos ⟨rfl, rfl⟩]

/-! zero values -/
theorem agree_tr {v : V} {x : Value} (h : agree v x = true) (p : Pl) {G : Gh} {w : World} : OwnC G w p v x := by
  unfold agree at h
  split at h
  · simp only [beq_iff_eq] at h; subst h; exact Tr.bool _
  · simp only [Bool.and_eq_true, beq_iff_eq] at h; obtain ⟨rfl, rfl⟩ := h; exact Tr.int _ _
  · simp only [Bool.and_eq_true, Array.isEmpty_iff] at h
    rename_i b c
    have : b = c := by cases b; cases c; simp only at h; rw [h.1, h.2]
    subst this
    exact Tr.str _
  · exact ⟨Tr.slc0 _ _ _, none, 0, rfl, .inl rfl⟩
  · exact Tr.nilp
  · exact Tr.nilfn
  · cases h
theorem agrees_spec : ∀ (l : List V) (m : List Value), agrees l m = true → l.length = m.length ∧ ∀ j, j < l.length → agree (l.getD j .undef) (m.getD j Go.undef) = true := by
  intro l
  induction l with
  | nil => intro m h; cases m <;> simp [agrees] at h ⊢
  | cons v l ih =>
    intro m h
    cases m with
    | nil => simp [agrees] at h
    | cons x m =>
      simp only [agrees, Bool.and_eq_true] at h
      obtain ⟨h1, h2⟩ := ih m h.2
      refine ⟨by simp [h1], fun j hj => ?_⟩
      cases j with
      | zero => exact h.1
      | succ j => exact h2 j (by simpa using hj)
theorem zero_spec {t : TypeId} {l : List V} (h : zero P t = some l) : ∃ z, (∀ w : World, (zeroValue t).run P w = .ok z w) ∧ l.length = z.cells.size ∧ (∀ j, j < l.length → agree (l.getD j .undef) (z.cells.getD j Go.undef) = true) ∧ (isAgg P t = true → ∃ cs, z = .agg cs) ∧ (isAgg P t = false → z.cells = #[z]) := by
  unfold zero at h
  cases hi : P.info? t with
  | none => simp [hi] at h
  | some i =>
    cases hz : i.zero with
    | none => simp [hi, hz] at h
    | some z =>
      simp only [hi, Option.bind_some, hz] at h
      split at h
      · rename_i ha
        rw [Bool.and_eq_true] at ha
        obtain ⟨ha, hb⟩ := ha
        obtain rfl := Option.some.inj h
        obtain ⟨h1, h2⟩ := agrees_spec _ _ ha
        refine ⟨z, fun w => ?_, by simpa using h1, fun j hj => ?_, fun h3 => ?_, fun h3 => ?_⟩
        · simp only [zeroValue, Sem.run_bind, typeInfo, run_program, Result.andThen_ok, hi, Sem.run_pure, hz]
        · have := h2 j hj
          simpa [List.getD_eq_getElem?_getD, Array.getD_eq_getD_getElem?] using this
        · rw [h3] at hb
          cases z <;> first | exact ⟨_, rfl⟩ | cases hb
        · rw [h3] at hb
          cases z <;> first | rfl | cases hb
      · cases h
theorem op_alloc {dd : Nat} {e : TypeId} {z : List V} (h : Rel G s a w) (hd : s.b dd = none) (hz : zero P e = some z) :
    OpOk P ⟨d, .alloc e, ty, pos, af, gd⟩ G s a w (.ptr s.lv dd 0) { s with b := upd s.b dd (some (.box z)) } := by
  obtain ⟨zv, h1, h2, h3, _⟩ := zero_spec hz
  obtain ⟨k1, k2, k3⟩ := h.allocOb hd (.cells zv.cells e) (.box z) (fun w' hw' hle hs hS => ⟨zv.cells, e, by rw [hw']; exact heap_alloc_new _ _, h2, hS, fun j hj => agree_tr (h3 j hj) _⟩)
  refine ⟨.pointer (some ⟨w.heap.size, 0, none⟩), _, _, ?_, k1, OwnS.of_tr' (Tr.ptr _ _ _ _ k3), k2⟩
  simp only [execOp]
  refine run_val ?_
  simp [Instr.alloc, h1, newVar, Go.newRow]
theorem op_makeMap {dd : Nat} {t : TypeId} (h : Rel G s a w) (hd : s.b dd = none) :
    OpOk P ⟨d, .makeMap t none, ty, pos, af, gd⟩ G s a w (.mp s.lv dd) { s with b := upd s.b dd (some (.map [])) } := by
  obtain ⟨k1, k2, k3⟩ := h.allocOb hd (.map #[] 0) (.map []) (fun w' hw' hle hs hS => ⟨#[], 0, by rw [hw']; exact heap_alloc_new _ _, rfl, hS, (fun x hx => by cases hx), fun j hj => by cases hj⟩)
  refine ⟨.map (some w.heap.size), _, _, ?_, k1, OwnS.of_tr' (Tr.mp _ _ _ k3), k2⟩
  simp only [execOp]
  refine run_val ?_
  simp [Instr.makeMap]
/-- an operand, all of it, handed over -/
theorem Rel.all (h : Rel G s a w) (P : Program) (ty : TypeId) (x : Operand) :
    ∃ G', Rel G' (s.drop x) a w ∧ OwnS G' w Pl.rs (s.all P ty x) (a.eval x) ∧ Fr s.lv G w G' w ∧ (∀ c j g, G.ω g = some (.rs c j) → G'.ω g = some (.rs c j)) ∧ G'.S = G.S ∧ G'.β = G.β := by
  cases x with
  | tmp i => exact h.take i
  | const v => exact ⟨G, h, rd_own (P := P) (s := s) Pl.rs ty (.const v) (fun i e => by cases e), Fr.refl _ _ _, fun _ _ _ e => e, rfl, rfl⟩
  | func f => exact ⟨G, h, rd_own (P := P) (s := s) Pl.rs ty (.func f) (fun i e => by cases e), Fr.refl _ _ _, fun _ _ _ e => e, rfl, rfl⟩
  | global g => exact ⟨G, h, rd_own (P := P) (s := s) Pl.rs ty (.global g) (fun i e => by cases e), Fr.refl _ _ _, fun _ _ _ e => e, rfl, rfl⟩
theorem cells_one {v : V} {x : Value} {S : Nat → Nat → Option Value} {β : Nat → Nat → Option Nat} (h : Tr S β v x) (hu : v ≠ .undef) (ha : ∀ l, v ≠ .agg l) : x.cells = #[x] ∧ x.oneCell' = true := by
  cases h <;> first | exact ⟨rfl, rfl⟩ | exact absurd rfl hu | exact absurd rfl (ha _)
theorem OwnC.one {p : Pl} {v : V} {x : Value} (h : OwnC G w p v x) (hv : cellOk v = true) : x.cells = #[x] ∧ x.oneCell' = true := by
  by_cases hq : ∃ sz l, v = .uq sz l
  · obtain ⟨sz, l, rfl⟩ := hq
    obtain ⟨a, cap, rfl, _⟩ := (h : OwnU G w p sz l x)
    exact ⟨rfl, rfl⟩
  have h1 := h.view
  refine cells_one h1 ?_ ?_
  · cases v <;> first | exact absurd ⟨_, _, rfl⟩ hq | (intro e; cases e; done) | cases hv
  · intro l; cases v <;> first | (intro e; cases e; done) | cases hv
theorem OwnV.cells {p : Nat → Pl} {v : V} {x : Value} (h : OwnV G w p v x) (hu : v ≠ .undef) (ht : ∀ l, v ≠ .tup l) : v.flat.length = x.cells.size ∧ ∀ j, j < v.flat.length → OwnC G w (p j) (v.flat.getD j .undef) (x.cells.getD j Go.undef) := by
  rcases flat_agg_or v with ⟨l, rfl⟩ | ⟨hna, hf⟩
  · obtain ⟨cs, rfl, hl, hc⟩ := h
    exact ⟨hl, hc⟩
  · have h1 : OwnC G w (p 0) v x := by
      cases v
      case agg l => exact absurd rfl (hna l)
      all_goals exact h
    have h2 : x.cells = #[x] := by
      by_cases hq : ∃ sz l, v = .uq sz l
      · obtain ⟨sz, l, rfl⟩ := hq
        obtain ⟨a, cap, rfl, _⟩ := (h1 : OwnU G w (p 0) sz l x)
        rfl
      refine (cells_one h1.view ?_ ?_).1
      · cases v <;> first | exact absurd ⟨_, _, rfl⟩ hq | (intro e; cases e; done) | exact absurd rfl hu
      · intro l e
        cases v
        case agg m => exact hna m rfl
        all_goals cases e
    rw [hf, h2]
    refine ⟨rfl, fun j hj => ?_⟩
    obtain rfl : j = 0 := by simpa using hj
    exact h1
theorem OwnS.toV {p : Nat → Nat → Pl} {v : V} {x : Value} (h : OwnS G w p v x) (ht : ∀ l, v ≠ .tup l) : OwnV G w (p 0) v x := by
  cases v
  case tup l => exact absurd rfl (ht l)
  all_goals exact h
def boxF (lv d off : Nat) : Pl → Pl
  | .rs 0 j => .cl lv d (off + j)
  | p => p
theorem op_box {dd : Nat} {e : TypeId} {x : Operand} {v : V} (h : Rel G s a w) (hd : s.b dd = none) (hv : s.all P e x = v) (hu : v ≠ .undef) (ht : ∀ l, v ≠ .tup l) :
    OpOk P ⟨d, .box e x, ty, pos, af, gd⟩ G s a w (.ptr s.lv dd 0) { s.drop x with b := upd s.b dd (some (.box v.flat)) } := by
  obtain ⟨G1, h1, h2, h3, _, _, _⟩ := h.all P e x
  rw [hv] at h2
  have hlv : (s.drop x).lv = s.lv := by cases x <;> rfl
  have hb : (s.drop x).b = s.b := by cases x <;> rfl
  obtain ⟨hc1, hc2⟩ := (h2.toV ht).cells hu ht
  -- what comes with the value is the variable's now
  have h4 : Rel (G1.ren (boxF s.lv dd 0)) (s.drop x) a w := by
    refine ⟨h1.size, h1.defers, fun t => (h1.slot t).ren _ fun c j => rfl, fun lv t ob hob => ?_, h1.dom, h1.imm, ren_lim h1.lim⟩
    obtain ⟨g, k1, k2, k3⟩ := h1.obj lv t ob hob
    exact ⟨g, k1, by rw [ren_ω k2]; rfl, k3.ren _ fun j => rfl⟩
  have h5 : Fr s.lv G w (G1.ren (boxF s.lv dd 0)) w := h3.trans (ren_fr fun p => by
    cases p with
    | rs c j => exact .inr trivial
    | _ => exact .inl rfl)
  obtain ⟨k1, k2, k3⟩ := h4.allocOb (dd := dd) (by rw [hb]; exact hd) (.cells (a.eval x).cells e) (.box v.flat) (fun w' hw' hle hs hS => ⟨(a.eval x).cells, e, by rw [hw']; exact heap_alloc_new _ _, hc1, hS, fun j hj => by
    refine ((hc2 j hj).ren (boxF s.lv dd 0) (p' := .cl s.lv dd j) (by simp [boxF])).mono hle fun g hg => ?_
    obtain ⟨e1, e2, e3⟩ := hs g _ hg
    exact ⟨e1, e2, by rw [hlv]; rw [hlv] at e3; exact e3⟩⟩)
  rw [hlv] at k1 k2 k3
  refine ⟨.pointer (some ⟨w.heap.size, 0, none⟩), _, _, ?_, by rw [hb] at k1; exact k1, OwnS.of_tr' (Tr.ptr _ _ _ _ k3), h5.trans k2⟩
  simp only [execOp]
  refine run_val ?_
  simp [Instr.box, newVar, Go.newRow]
end Go.Ev
