/- Sizes, conditions and equality of trees; the rule for loops. -/
import Derived.Test.YtdepiibcopbjlaaEvS
import Derived.RowKit
import Derived.IntWalk
namespace Go.Ev
open Go Go.RowKit
set_option linter.unusedVariables false

mutual
def szT : V → Nat
  | .str s => s.size
  | .slc _ _ l => l.length + szL l
  | .agg l => szL l
  | _ => 0
def szL : List V → Nat
  | [] => 0
  | a :: l => szT a + szL l
end
mutual
def okV : V → Prop
  | .str s => s.size ≤ 9223372036854775807
  | .int k n => (Lit.int k n).wf = true
  | .slc _ _ l => l.length ≤ 9223372036854775807 ∧ okL l
  | .agg l => okL l
  | _ => True
def okL : List V → Prop
  | [] => True
  | a :: l => okV a ∧ okL l
end
def isData : V → Bool
  | .bool _ | .int .. | .str _ | .slc .. | .agg _ => true
  | _ => false
mutual
def veq : V → V → Bool
  | .bool a, .bool b => a == b
  | .int _ a, .int _ b => a == b
  | .str a, .str b => a.toList == b.toList
  | .slc _ _ l, .slc _ _ m => veqs l m
  | .agg l, .agg m => veqs l m
  | a, b => !isData a && !isData b
def veqs : List V → List V → Bool
  | [], [] => true
  | a :: l, b :: m => veq a b && veqs l m
  | _, _ => false
end
mutual
theorem veq_refl : ∀ v : V, veq v v = true
  | .bool a => by simp only [veq, beq_self_eq_true]
  | .int k a => by simp only [veq, beq_self_eq_true]
  | .str s => by simp only [veq, beq_self_eq_true]
  | .slc o z l => by simp only [veq]; exact veqs_refl l
  | .agg l => by simp only [veq]; exact veqs_refl l
  | .undef => by simp [veq, isData]
  | .tup l => by simp [veq, isData]
  | .ptr a b c => by simp [veq, isData]
  | .imp l => by simp [veq, isData]
  | .eptr a b c d => by simp [veq, isData]
  | .aref a b c => by simp [veq, isData]
  | .mp a b => by simp [veq, isData]
  | .fn a b => by simp [veq, isData]
  | .nilp => by simp [veq, isData]
  | .nilfn => by simp [veq, isData]
theorem veqs_refl : ∀ l : List V, veqs l l = true
  | [] => by simp only [veqs]
  | a :: l => by simp only [veqs, veq_refl a, veqs_refl l, Bool.and_self]
end
theorem okL_mem {l : List V} (h : okL l) : ∀ x ∈ l, okV x := by
  induction l with
  | nil => intro x hx; cases hx
  | cons a l ih =>
    intro x hx
    rcases List.mem_cons.1 hx with rfl | hx
    · exact h.1
    · exact ih h.2 x hx
theorem okL_map {α : Type} {f : α → V} {l : List α} (h : okL (l.map f)) {a : α} (ha : a ∈ l) : okV (f a) := okL_mem h _ (List.mem_map_of_mem ha)
theorem veqs_len : ∀ {l m : List V}, veqs l m = true → l.length = m.length := by
  intro l
  induction l with
  | nil => intro m h; cases m with | nil => rfl | cons => cases h
  | cons a l ih =>
    intro m h
    cases m with
    | nil => cases h
    | cons b m =>
      simp only [veqs, Bool.and_eq_true] at h
      simp [ih h.2]
theorem veqs_ne {l m : List V} (h : l.length ≠ m.length) : veqs l m = false := by
  cases e : veqs l m with
  | false => rfl
  | true => exact absurd (veqs_len e) h
/-- what is left behind a value's size -/
def leftOf (n : Nat) (left : Int) : Int := if (n : Int) ≤ left then left - n else -1
def szR (v : V) (left : Int) : Int := leftOf (szT v) left
def szRL (l : List V) (left : Int) : Int := leftOf (szL l) left
theorem leftOf_pos {n : Nat} {left : Int} (h : (n : Int) ≤ left) : leftOf n left = left - n := if_pos h
theorem leftOf_neg {n : Nat} {left : Int} (h : ¬ (n : Int) ≤ left) : leftOf n left = -1 := if_neg h
/-- something is left -/
theorem leftOf_ge {n : Nat} {left : Int} (h : ¬ leftOf n left < 0) : leftOf n left = left - n ∧ (n : Int) ≤ left := by
  by_cases k : (n : Int) ≤ left
  · exact ⟨if_pos k, k⟩
  · rw [leftOf_neg k] at h; exact absurd (by decide) h
theorem leftOf_lt {n : Nat} {left : Int} (h0 : 0 ≤ left) (h : leftOf n left < 0) : leftOf n left = -1 ∧ left < n := by
  by_cases k : (n : Int) ≤ left
  · rw [leftOf_pos k] at h; omega
  · exact ⟨leftOf_neg k, by omega⟩
def I (n : Int) : V := .int .i64 n
def B (b : Bool) : V := .bool b
def Sv (s : ByteArray) : V := .str s

theorem wrap_in {n : Int} (h : -9223372036854775808 ≤ n) (h' : n ≤ 9223372036854775807) : IntKind.i64.wrap n = n := IntWalk.i64_in n ⟨h, h'⟩
theorem wrap_nat {n : Nat} (h : n < 9223372036854775807) : IntKind.i64.wrap ((n : Int) + 1) = ((n + 1 : Nat) : Int) := by
  rw [wrap_in (by omega) (by omega)]; rfl

/-- a loop's rounds, under a condition that stays -/
theorem iter_inv {σ : Type} {E : Env} {c : Code} {k : List It} (I : σ → Prop) (S : σ → St) (R : σ → Option (V × List (Nat → Option Ob))) (μ : σ → Nat) (h : ∀ x, I x → (∀ y, I y → μ y < μ x → iter E c k (S y) = R y) → lim E (.code c :: .lp c :: k) (S x) = R x) (x : σ) (hx : I x) : iter E c k (S x) = R x := by
  suffices ∀ n x, I x → μ x ≤ n → iter E c k (S x) = R x from this _ x hx (Nat.le_refl _)
  intro n
  induction n with
  | zero => intro x hI hx; exact h x hI fun y hy hlt => absurd hlt (by omega)
  | succ n ih => intro x hI hx; exact h x hI fun y hy hlt => ih y hy (by omega)

theorem getD_map {α : Type} {f : α → V} {l : List α} {i : Nat} (h : i < l.length) (d : V) : (l.map f).getD i d = f l[i] := by
  simp [List.getD_eq_getElem?_getD, List.getElem?_eq_getElem h]
theorem toNat_cast (n : Nat) : (n : Int).toNat = n := Int.toNat_natCast n

theorem len_map_lt {α : Type} {f : α → V} {l : List α} : (l.map f).length = l.length := List.length_map ..
/-- an array, filled up to i -/
def fill {α : Type} (f : α → V) (l : List α) (d : V) (i : Nat) : List V := (l.take i).map f ++ List.replicate (l.length - i) d
theorem fill_zero {α : Type} (f : α → V) (l : List α) (d : V) : fill f l d 0 = List.replicate l.length d := rfl
theorem fill_len {α : Type} (f : α → V) (l : List α) (d : V) {i : Nat} (h : i ≤ l.length) : (fill f l d i).length = l.length := by simp [fill]; omega
theorem fill_all {α : Type} (f : α → V) (l : List α) (d : V) : fill f l d l.length = l.map f := by simp [fill]
theorem fill_set {α : Type} (f : α → V) (l : List α) (d : V) {i : Nat} (h : i < l.length) (v : V) (hv : v = f l[i]) : (fill f l d i).set i v = fill f l d (i + 1) := by
  subst hv
  unfold fill
  have hn : l.length - i = (l.length - (i + 1)) + 1 := by omega
  rw [List.set_append_right _ _ (by simp; omega), hn]
  have : i - ((l.take i).map f).length = 0 := by simp; omega
  rw [this, List.replicate_succ, List.set_cons_zero, ← List.take_append_getElem h, List.map_append, List.append_assoc]
  rfl

/-! a drawn region, one operation after the other -/
noncomputable def drawN (E : Env) (k : List It) (all : Array Oper) (c : List Nat) (s : St) (done : List (Nat × V)) : Option (V × List (Nat → Option Ob)) := drawL E k (drun E (Ev.lim E) all c s done)
noncomputable def drL (E : Env) (k : List It) (all : Array Oper) (c : List Nat) : Option (St × List (Nat × V)) → Option (V × List (Nat → Option Ob))
  | some (s, done) => drawN E k all c s done
  | none => none
section
variable {E : Env} {k : List It} {all : Array Oper} {c : List Nat} {s : St} {done : List (Nat × V)}
theorem d_nil : drawN E k all [] s done = lim E k s := rfl
theorem d_cons (i : Nat) : drawN E k all (i :: c) s done = drL E k all c (dstep E (Ev.lim E) all i s done) := by
  show drawL E k (Option.bind _ _) = _
  cases h : dstep E (Ev.lim E) all i s done with
  | none => rfl
  | some r => rfl
theorem drL_some : drL E k all c (some (s, done)) = drawN E k all c s done := rfl
theorem drL_none : drL E k all c none = none := rfl
theorem drL_ite {p : Prop} [Decidable p] (x y : Option (St × List (Nat × V))) : drL E k all c (if p then x else y) = if p then drL E k all c x else drL E k all c y := by split <;> rfl
theorem q_drawn (i : Nat) {os : Array Oper} (h : drawOk E.P (E.H s.f) os (orderOf (E.H s.f) i os.size) = true) : lim E (.code (.region i os true) :: k) s = drawN E k os (orderOf (E.H s.f) i os.size) s [] := by
  rw [q_draw, if_pos h]
  rfl
end
theorem view_view (v : V) : v.view.view = v.view := by
  cases v <;> try rfl
  rename_i l
  simp only [V.view, List.map_map]
  congr 2
  funext x
  cases x <;> rfl
theorem set_nil (t : Nat → V) (d : Nat) (v : V) : setT t [] (some d) v = upd t d v := by
  funext x
  unfold setT upd
  by_cases h : x = d
  · subst h; simp
  · have : ¬ (d = x) := fun e => h e.symm
    simp [h, this, memN]
theorem set_cons (t : Nat → V) (a d : Nat) (D : List Nat) (v : V) : setT t (a :: D) (some d) v = setT (upd t a (t a).view) D (some d) v := by
  funext x
  unfold setT
  by_cases h : d = x
  · subst h; simp
  · simp only [Option.some.injEq, h, if_false, memN, upd]
    by_cases hx : x = a
    · subst hx
      simp only [if_true, view_view, ite_self]
    · simp only [hx, if_false]
/-- what a call that meets no object answers -/
noncomputable def xcV (E : Env) (g : Nat) (vs : List V) : Option V → Option V
  | some v => some v
  | none => (run E g vs []).map (·.1)
theorem xcV_n (g : Nat) (vs : List V) {E : Env} : xcV E g vs none = (run E g vs []).map (·.1) := rfl
theorem xcV_s (g : Nat) (vs : List V) (v : V) {E : Env} : xcV E g vs (some v) = some v := rfl
noncomputable def xcL (E : Env) (d : Option Nat) (n : Nat) (sz : Bool) : V → Option (List V × St) → Option V
  | .fn g [], some (vs, _) => if sz = true ∧ d.all (fun d => decide (d < n)) = true then xcV E g vs (E.orc g vs) else none
  | _, _ => none
theorem xcL_f (g : Nat) (vs : List V) (d : Option Nat) (n : Nat) (sz : Bool) (s : St) {E : Env} : xcL E d n sz (.fn g []) (some (vs, s)) = if sz = true ∧ d.all (fun d => decide (d < n)) = true then xcV E g vs (E.orc g vs) else none := rfl
theorem x_call {E : Env} {s : St} {d : Option Nat} {f : Operand} {args : Array Operand} {tys : Array TypeId} {ty : TypeId} {pos : String} {aft : Array Edge} {g : Option (Nat × Bool)} :
    xval E (Ev.lim E) { dst := d, op := .call { callee := .value f, args := args, argTypes := tys }, type := ty, pos := pos, after := aft, guard := g } s =
      xcL E d s.n (args.size == tys.size) (s.see E.P 0 f) (s.args E.P (tys.toList.zip args.toList)) := by
  unfold xval
  dsimp only
  cases s.see E.P 0 f with
  | fn g caps =>
    cases caps with
    | nil =>
      cases s.args E.P (tys.toList.zip args.toList) with
      | none => rfl
      | some r =>
        obtain ⟨vs, s1⟩ := r
        show _ = if _ then _ else _
        simp only [beq_iff_eq]
        split
        · unfold xcV run
          cases E.orc g vs with
          | some v => rfl
          | none =>
            dsimp only
            cases startS E g vs [] with
            | none => rfl
            | some x => rfl
        · rfl
    | cons a l => rfl
  | _ => rfl

theorem szL_I (l : List Int) : szL (l.map I) = 0 := by
  induction l with
  | nil => rfl
  | cons a l ih => show szT (I a) + szL (l.map I) = 0; rw [ih]; rfl
theorem szRL_cons (a : V) (l : List V) (left : Int) : szRL (a :: l) left = if szR a left < 0 then -1 else szRL l (szR a left) := by
  have e : szL (a :: l) = szT a + szL l := by simp only [szL]
  unfold szRL szR
  rw [e]
  by_cases h : (szT a : Int) ≤ left
  · rw [leftOf_pos h, if_neg (by omega)]
    by_cases h2 : (szL l : Int) ≤ left - szT a
    · rw [leftOf_pos h2, leftOf_pos (by omega)]; omega
    · rw [leftOf_neg h2, leftOf_neg (by omega)]
  · rw [leftOf_neg h, if_pos (by decide), leftOf_neg (by omega)]
theorem szL_mem {α : Type} {f : α → V} {l : List α} {a : α} (h : a ∈ l) : szT (f a) ≤ szL (l.map f) := by
  induction l with
  | nil => cases h
  | cons b l ih =>
    rw [List.map_cons, szL]
    rcases List.mem_cons.1 h with rfl | h
    · omega
    · have := ih h; omega
theorem veqs_cons (a b : V) (l m : List V) : veqs (a :: l) (b :: m) = (veq a b && veqs l m) := by simp only [veqs]
theorem ok_I (n : Int) (l : List Int) : okL (l.map I) → ∀ x ∈ l, -9223372036854775808 ≤ x ∧ x ≤ 9223372036854775807 := by
  intro h x hx
  have := okL_map h hx
  simp only [I, okV, Lit.wf] at this
  have k : (decide (IntKind.i64.min ≤ x) && decide (x ≤ IntKind.i64.max)) = true := this
  have a : IntKind.i64.min = -9223372036854775808 := by decide
  have b : IntKind.i64.max = 9223372036854775807 := by decide
  rw [a, b] at k
  simpa using k
theorem condL_dec {E : Env} {a c : List It} {s : St} {R : Option (V × List (Nat → Option Ob))} {p : Prop} [Decidable p] (h1 : p → lim E a s = R) (h2 : ¬ p → lim E c s = R) : condL E a c s (.bool (decide p)) = R := by
  rw [condL_b]
  by_cases h : p
  · rw [if_pos (decide_eq_true h)]; exact h1 h
  · rw [if_neg (by simpa using h)]; exact h2 h
theorem condL_bool {E : Env} {a c : List It} {s : St} {R : Option (V × List (Nat → Option Ob))} {v : Bool} (h1 : v = true → lim E a s = R) (h2 : v = false → lim E c s = R) : condL E a c s (.bool v) = R := by
  rw [condL_b]
  cases v
  · exact h2 rfl
  · exact h1 rfl
theorem guardL_bool {E : Env} {o : Oper} {l : List Oper} {all : Array Oper} {k : List It} {s : St} {w v : Bool} {R : Option (V × List (Nat → Option Ob))} (h1 : v = true → guardL E o l all k s w (some (.bool true)) = R) (h2 : v = false → guardL E o l all k s w (some (.bool false)) = R) : guardL E o l all k s w (some (.bool v)) = R := by
  cases v
  · exact h2 rfl
  · exact h1 rfl
theorem condL_t {E : Env} {a c : List It} {s : St} : condL E a c s (.bool true) = lim E a s := rfl
theorem condL_f {E : Env} {a c : List It} {s : St} : condL E a c s (.bool false) = lim E c s := rfl
theorem guardL_tt {E : Env} {o : Oper} {l : List Oper} {all : Array Oper} {k : List It} {s : St} : guardL E o l all k s true (some (.bool true)) = lim E (.ops (o :: l) all :: k) s := rfl
theorem guardL_ff {E : Env} {o : Oper} {l : List Oper} {all : Array Oper} {k : List It} {s : St} : guardL E o l all k s false (some (.bool false)) = lim E (.ops (o :: l) all :: k) s := rfl
theorem guardL_tf {E : Env} {o : Oper} {l : List Oper} {all : Array Oper} {k : List It} {s : St} : guardL E o l all k s true (some (.bool false)) = lim E (.ops l all :: k) (s.putO o.dst (.tup [])) := rfl
theorem guardL_ft {E : Env} {o : Oper} {l : List Oper} {all : Array Oper} {k : List It} {s : St} : guardL E o l all k s false (some (.bool true)) = lim E (.ops l all :: k) (s.putO o.dst (.tup [])) := rfl
attribute [go_sem] strOp convV sliceV appendV min2V max2V vLookup uMap findE putE buildF St.trees inOrder shiftV resT resTs condL_t condL_f guardL_tt guardL_ff guardL_tf guardL_ft V.ite
section
variable {E : Env} {ev : Run} {s : St} {d : Option Nat} {ty : TypeId} {pos : String} {aft : Array Edge} {g : Option (Nat × Bool)}
theorem x_move (x : Operand) : xval E ev { dst := d, op := .move x, type := ty, pos := pos, after := aft, guard := g } s = (evV E.P (E.H s.f) (d.getD 0) ty (.move x) s).map (·.1) := rfl
theorem x_assign (x : Operand) : xval E ev { dst := d, op := .assign x, type := ty, pos := pos, after := aft, guard := g } s = (evV E.P (E.H s.f) (d.getD 0) ty (.assign x) s).map (·.1) := rfl
theorem x_pick (x y z : Operand) : xval E ev { dst := d, op := .pick x y z, type := ty, pos := pos, after := aft, guard := g } s = (evV E.P (E.H s.f) (d.getD 0) ty (.pick x y z) s).map (·.1) := rfl
theorem x_build (u : TypeId) (ps : Array (Nat × Operand)) : xval E ev { dst := d, op := .build u ps, type := ty, pos := pos, after := aft, guard := g } s = (evV E.P (E.H s.f) (d.getD 0) ty (.build u ps) s).map (·.1) := rfl
theorem x_buildSlice (u : TypeId) (m : Nat) (ps : Array (Nat × Operand)) : xval E ev { dst := d, op := .buildSlice u m ps, type := ty, pos := pos, after := aft, guard := g } s = (evV E.P (E.H s.f) (d.getD 0) ty (.buildSlice u m ps) s).map (·.1) := rfl
theorem x_nilCheck (x : Operand) : xval E ev { dst := d, op := .nilCheck x, type := ty, pos := pos, after := aft, guard := g } s = (evV E.P (E.H s.f) (d.getD 0) ty (.nilCheck x) s).map (·.1) := rfl
theorem x_binOp (b : BinOp) (u v : TypeId) (x y : Operand) : xval E ev { dst := d, op := .binOp b u x y v, type := ty, pos := pos, after := aft, guard := g } s = (evV E.P (E.H s.f) (d.getD 0) ty (.binOp b u x y v) s).map (·.1) := rfl
theorem x_unOp (b : UnOp) (u : TypeId) (x : Operand) : xval E ev { dst := d, op := .unOp b u x, type := ty, pos := pos, after := aft, guard := g } s = (evV E.P (E.H s.f) (d.getD 0) ty (.unOp b u x) s).map (·.1) := rfl
theorem x_convert (u v : TypeId) (x : Operand) : xval E ev { dst := d, op := .convert u v x, type := ty, pos := pos, after := aft, guard := g } s = (evV E.P (E.H s.f) (d.getD 0) ty (.convert u v x) s).map (·.1) := rfl
theorem x_makeSlice (u : TypeId) (x y : Operand) : xval E ev { dst := d, op := .makeSlice u x y, type := ty, pos := pos, after := aft, guard := g } s = (evV E.P (E.H s.f) (d.getD 0) ty (.makeSlice u x y) s).map (·.1) := rfl
theorem x_slice (u : TypeId) (x : Operand) (a b m : Option Operand) : xval E ev { dst := d, op := .slice u x a b m, type := ty, pos := pos, after := aft, guard := g } s = (evV E.P (E.H s.f) (d.getD 0) ty (.slice u x a b m) s).map (·.1) := rfl
theorem x_fieldAddr (u : TypeId) (x : Operand) (f : Nat) : xval E ev { dst := d, op := .fieldAddr u x f, type := ty, pos := pos, after := aft, guard := g } s = (evV E.P (E.H s.f) (d.getD 0) ty (.fieldAddr u x f) s).map (·.1) := rfl
theorem x_field (u : TypeId) (x : Operand) (f : Nat) : xval E ev { dst := d, op := .field u x f, type := ty, pos := pos, after := aft, guard := g } s = (evV E.P (E.H s.f) (d.getD 0) ty (.field u x f) s).map (·.1) := rfl
theorem x_indexAddr (u : TypeId) (x i : Operand) : xval E ev { dst := d, op := .indexAddr u x i, type := ty, pos := pos, after := aft, guard := g } s = (evV E.P (E.H s.f) (d.getD 0) ty (.indexAddr u x i) s).map (·.1) := rfl
theorem x_index (u : TypeId) (x i : Operand) : xval E ev { dst := d, op := .index u x i, type := ty, pos := pos, after := aft, guard := g } s = (evV E.P (E.H s.f) (d.getD 0) ty (.index u x i) s).map (·.1) := rfl
theorem x_builtin (b : Builtin) (a : Array Operand) (c : Array TypeId) : xval E ev { dst := d, op := .call { callee := .builtin b, args := a, argTypes := c }, type := ty, pos := pos, after := aft, guard := g } s = (evV E.P (E.H s.f) (d.getD 0) ty (.call { callee := .builtin b, args := a, argTypes := c }) s).map (·.1) := rfl
theorem x_extract (u i : Nat) : xval E ev { dst := d, op := .extract (.tmp u) i, type := ty, pos := pos, after := aft, guard := g } s = match s.t u with | .tup l => (l[i]?).map V.view | _ => none := rfl
end
/-! more for go_sem -/
theorem all_nil' {p : V → Bool} : List.all [] p = true := rfl
theorem all_cons' {p : V → Bool} {a : V} {l : List V} : List.all (a :: l) p = (p a && List.all l p) := rfl
theorem drawL_s {E : Env} {k : List It} {s : St} : drawL E k (some s) = lim E k s := rfl
attribute [go_sem] St.lv St.ob obIn St.setOb setIn V.flat vLoad uStore faddr_p faddr_i fget_a vIndexAddr pack setL List.drop_succ_cons List.drop_zero List.take_succ_cons List.take_zero List.drop_nil List.take_nil cellOk lowV toNat_cast all_nil' all_cons' List.getD_cons_zero List.getD_cons_succ List.length_map Bool.and_self Bool.true_and Bool.and_true Int.reduceNeg Int.reduceToNat drawL_s keepO evU List.headD_cons decide_true decide_false List.map_cons List.map_nil Int.cast_ofNat_Int Int.le_refl List.length_set List.length_append List.length_replicate List.length_take List.length_drop
attribute [go_sem] Option.getD_none d_nil d_cons drL_some drL_none drL_ite dstep guardS isX isL dynX inDst x_call xcL_f xcV_n xcV_s x_move x_assign x_pick x_build x_buildSlice x_nilCheck x_binOp x_unOp x_convert x_makeSlice x_slice x_fieldAddr x_field x_indexAddr x_index x_builtin x_extract lval St.setX set_nil set_cons drops Bool.not_false orderOf List.range_succ List.range_zero tmpsOf Option.all_some List.getElem?_toArray List.getElem?_cons_zero List.getElem?_cons_succ
end Go.Ev
