/- Sizes, conditions and equality of trees; the rule for loops. A given function of which the kit has a contract: the first place of a byte. The program's data as Lean structures, and as trees. Strings as bytes: scans, counts, letters, variables. Drawn regions whose writes come behind what was read: one operation after the other. Regular expressions: size, depth, validity. Frames, states and steps: what both sides compute. Automata with numbers for states. Rows marked and held: what the statements' last part does to memory. -/
import Derived.RowKit
import Derived.IntWalk
import Derived.Lib.Bytealg
import Derived.Laws.Strings
import Derived.Lib.LazyBuf
import Derived.Test.YtkffkacjmhmegaaEvM
import Derived.Test.YtkffkacjmhmegaaEvJ
import Derived.Test.YtkffkacjmhmegaaEvL
set_option linter.unusedVariables false
set_option linter.unusedSimpArgs false
namespace Go.Ev
open Go Go.RowKit

mutual
def szT : V → Nat
 | .str s => s.size
 | .slc _ _ l => l.length + szL l
 | .agg l => szL l
 | _ => 0
def szL : List V → Nat
 | [] => 0
 | a :: l => szT a + szL l
end
mutual
def okV : V → Prop
 | .str s => s.size ≤ 9223372036854775807
 | .int k n => (Lit.int k n).wf = true
 | .slc _ _ l => l.length ≤ 9223372036854775807 ∧ okL l
 | .agg l => okL l
 | _ => True
def okL : List V → Prop
 | [] => True
 | a :: l => okV a ∧ okL l
end
def isData : V → Bool
 | .bool _ | .int .. | .str _ | .slc .. | .agg _ => true
 | _ => false
mutual
def veq : V → V → Bool
 | .bool a, .bool b => a == b
 | .int _ a, .int _ b => a == b
 | .str a, .str b => a.toList == b.toList
 | .slc _ _ l, .slc _ _ m => veqs l m
 | .agg l, .agg m => veqs l m
 | a, b => !isData a && !isData b
def veqs : List V → List V → Bool
 | [], [] => true
 | a :: l, b :: m => veq a b && veqs l m
 | _, _ => false
end
mutual
theorem veq_refl : ∀ v : V, veq v v = true
 | .bool a => by simp only [veq, beq_self_eq_true]
 | .int k a => by simp only [veq, beq_self_eq_true]
 | .str s => by simp only [veq, beq_self_eq_true]
 | .slc o z l => by simp only [veq]; exact veqs_refl l
 | .uq a b => by simp [veq, isData]
 | .nw a => by simp [veq, isData]
 | .agg l => by simp only [veq]; exact veqs_refl l
 | .undef => by simp [veq, isData]
 | .tup l => by simp [veq, isData]
 | .ptr a b c => by simp [veq, isData]
 | .imp l => by simp [veq, isData]
 | .eptr a b c d => by simp [veq, isData]
 | .aref a b c => by simp [veq, isData]
 | .oref a b c => by simp [veq, isData]
 | .mp a b => by simp [veq, isData]
 | .fn a b => by simp [veq, isData]
 | .nilp => by simp [veq, isData]
 | .nilfn => by simp [veq, isData]
theorem veqs_refl : ∀ l : List V, veqs l l = true
 | [] => by simp only [veqs]
 | a :: l => by simp only [veqs, veq_refl a, veqs_refl l, Bool.and_self]
end
def leftOf (n : Nat) (left : Int) : Int := if (n : Int) ≤ left then left - n else -1
def szR (v : V) (left : Int) : Int := leftOf (szT v) left
def szRL (l : List V) (left : Int) : Int := leftOf (szL l) left
def I (n : Int) : V := .int .i64 n
def B (b : Bool) : V := .bool b
def Sv (s : ByteArray) : V := .str s
def IL (l : List Int) : V := .slc false 1 (l.map I)
def idxB (s : ByteArray) (c : Int) : Int := Go.Lib.indexByte s.data.toList c.toNat.toUInt8
def idxO : List V → Option V
 | [.str s, .int .u8 c] => some (.int .i64 (idxB s c))
 | _ => none

theorem wrap_in {n : Int} (h : -9223372036854775808 ≤ n) (h' : n ≤ 9223372036854775807) : IntKind.i64.wrap n = n := IntWalk.i64_in n ⟨h, h'⟩
theorem wrap_nat {n : Nat} (h : n < 9223372036854775807) : IntKind.i64.wrap ((n : Int) + 1) = ((n + 1 : Nat) : Int) := by
 rw [wrap_in (by omega) (by omega)]; rfl

theorem wrap_0 : IntKind.i64.wrap 0 = 0 := by decide
theorem wrap_1 : IntKind.i64.wrap 1 = 1 := by decide
theorem wrap_lit (n : Nat) (h : n ≤ 9223372036854775807) : IntKind.i64.wrap (no_index (OfNat.ofNat n) : Int) = (OfNat.ofNat n : Int) := by
 show IntKind.i64.wrap (n : Int) = (n : Int)
 exact wrap_in (by omega) (by omega)
theorem iter_eq {E : Env} {c : Code} {k : List It} {s : St} : iter E c k s = lim E (.code c :: .lp c :: k) s := rfl
theorem arr_empty {α : Type} : (#[] : Array α).isEmpty = true := rfl
theorem b_ft : (false == true) = false := rfl
theorem b_tf : (true == false) = false := rfl
theorem iter_inv {σ : Type} {E : Env} {c : Code} {k : List It} (I : σ → Prop) (S : σ → St) (R : σ → Option (V × List (Nat → Option Ob))) (μ : σ → Nat) (h : ∀ x, I x → (∀ y, I y → μ y < μ x → iter E c k (S y) = R y) → lim E (.code c :: .lp c :: k) (S x) = R x) (x : σ) (hx : I x) : iter E c k (S x) = R x := by
 suffices ∀ n x, I x → μ x ≤ n → iter E c k (S x) = R x from this _ x hx (Nat.le_refl _)
 intro n
 induction n with
 | zero => intro x hI hx; exact h x hI fun y hy hlt => absurd hlt (by omega)
 | succ n ih => intro x hI hx; exact h x hI fun y hy hlt => ih y hy (by omega)

theorem getD_map {α : Type} {f : α → V} {l : List α} {i : Nat} (h : i < l.length) (d : V) : (l.map f).getD i d = f l[i] := by
 simp [List.getD_eq_getElem?_getD, List.getElem?_eq_getElem h]
theorem toNat_cast (n : Nat) : (n : Int).toNat = n := Int.toNat_natCast n

def fill {α : Type} (f : α → V) (l : List α) (d : V) (i : Nat) : List V := (l.take i).map f ++ List.replicate (l.length - i) d
noncomputable def drawN (E : Env) (k : List It) (all : Array Oper) (c : List Nat) (s : St) (done : List (Nat × V)) : Option (V × List (Nat → Option Ob)) := drawL E k (drun E (Ev.lim E) all c s done)
noncomputable def drL (E : Env) (k : List It) (all : Array Oper) (c : List Nat) : Option (St × List (Nat × V)) → Option (V × List (Nat → Option Ob))
 | some (s, done) => drawN E k all c s done
 | none => none
section
variable {E : Env} {k : List It} {all : Array Oper} {c : List Nat} {s : St} {done : List (Nat × V)}
theorem d_nil : drawN E k all [] s done = lim E k s := rfl
theorem d_cons (i : Nat) : drawN E k all (i :: c) s done = drL E k all c (dstep E (Ev.lim E) all i s done) := by
 show drawL E k (Option.bind _ _) = _
 cases h : dstep E (Ev.lim E) all i s done with
 | none => rfl
 | some r => rfl
theorem drL_some : drL E k all c (some (s, done)) = drawN E k all c s done := rfl
theorem drL_none : drL E k all c none = none := rfl
theorem drL_ite {p : Prop} [Decidable p] (x y : Option (St × List (Nat × V))) : drL E k all c (if p then x else y) = if p then drL E k all c x else drL E k all c y := by split <;> rfl
theorem q_drawn (i : Nat) {os : Array Oper} (h : drawOk E.P (E.H s.f) os (orderOf (E.H s.f) i os.size) = true) : lim E (.code (.region i os true) :: k) s = drawN E k os (orderOf (E.H s.f) i os.size) s [] := by
 rw [q_draw, if_pos h]
 rfl
end
theorem view_view (v : V) : v.view.view = v.view := by
 cases v <;> try rfl
 rename_i l
 simp only [V.view, List.map_map]
 congr 2
 funext x
 cases x <;> rfl
theorem set_nil (t : Nat → V) (d : Nat) (v : V) : setT t [] [] (some d) v = upd t d v := by
 funext x
 unfold setT upd
 by_cases h : x = d
 · subst h; simp
 · have : ¬ (d = x) := fun e => h e.symm
   simp [h, this, memN]
theorem set_cons (t : Nat → V) (a d : Nat) (D : List Nat) (v : V) : setT t (a :: D) [] (some d) v = setT (upd t a (t a).view) D [] (some d) v := by
 funext x
 unfold setT
 by_cases h : d = x
 · subst h; simp
 · simp only [Option.some.injEq, h, if_false, memN, upd]
   by_cases hx : x = a
   · subst hx
     simp [view_view]
   · simp [hx]
theorem set_cut (t : Nat → V) (a d : Nat) (v : V) : setT t [] [a] (some d) v = upd (upd t a (t a).cut) d v := by
 funext x
 unfold setT upd
 by_cases h : d = x
 · subst h; simp
 · have h' : ¬ x = d := fun e => h e.symm
   simp only [Option.some.injEq, h, h', if_false, memN]
   by_cases hx : x = a
   · subst hx; simp [memN]
   · simp [hx, memN]
noncomputable def xcV (E : Env) (g : Nat) (vs : List V) (u : Bool) : Option V → Option V
 | some v => some v
 | none => (run E g vs []).map fun r => setl u r.1
theorem xcV_n (g : Nat) (vs : List V) (u : Bool) {E : Env} : xcV E g vs u none = (run E g vs []).map fun r => setl u r.1 := rfl
theorem xcV_s (g : Nat) (vs : List V) (u : Bool) (v : V) {E : Env} : xcV E g vs u (some v) = some v := rfl
noncomputable def xcL (E : Env) (d : Option Nat) (n : Nat) (sz : Bool) (s0 : St) : V → Option (List V × St) → Option V
 | .fn g [], some (vs, _) => if sz = true ∧ d.all (fun d => decide (d < n)) = true then xcV E g vs (setF E g d s0) (E.orc g vs) else none
 | _, _ => none
theorem xcL_f (g : Nat) (vs : List V) (d : Option Nat) (n : Nat) (sz : Bool) (s s0 : St) {E : Env} : xcL E d n sz s0 (.fn g []) (some (vs, s)) = if sz = true ∧ d.all (fun d => decide (d < n)) = true then xcV E g vs (setF E g d s0) (E.orc g vs) else none := rfl
theorem x_call {E : Env} {s : St} {d : Option Nat} {f : Operand} {args : Array Operand} {tys : Array TypeId} {ty : TypeId} {pos : String} {aft : Array Edge} {g : Option (Nat × Bool)} :
   xval E (Ev.lim E) { dst := d, op := .call { callee := .value f, args := args, argTypes := tys }, type := ty, pos := pos, after := aft, guard := g } s =
     xcL E d s.n (args.size == tys.size) s (s.see E.P 0 f) (s.args E.P (tys.toList.zip args.toList)) := by
 unfold xval
 dsimp only
 cases s.see E.P 0 f with
 | fn g caps =>
   cases caps with
   | nil =>
     cases s.args E.P (tys.toList.zip args.toList) with
     | none => rfl
     | some r =>
       obtain ⟨vs, s1⟩ := r
       show _ = if _ then _ else _
       simp only [beq_iff_eq]
       split
       · unfold xcV run
         cases E.orc g vs with
         | some v => rfl
         | none =>
           dsimp only
           cases startS E g vs [] with
           | none => rfl
           | some x => rfl
       · rfl
   | cons a l => rfl
 | _ => rfl

theorem condL_dec {E : Env} {a c : List It} {s : St} {R : Option (V × List (Nat → Option Ob))} {p : Prop} [Decidable p] (h1 : p → lim E a s = R) (h2 : ¬ p → lim E c s = R) : condL E a c s (.bool (decide p)) = R := by
 rw [condL_b]
 by_cases h : p
 · rw [if_pos (decide_eq_true h)]; exact h1 h
 · rw [if_neg (by simpa using h)]; exact h2 h
theorem condL_bool {E : Env} {a c : List It} {s : St} {R : Option (V × List (Nat → Option Ob))} {v : Bool} (h1 : v = true → lim E a s = R) (h2 : v = false → lim E c s = R) : condL E a c s (.bool v) = R := by
 rw [condL_b]
 cases v
 · exact h2 rfl
 · exact h1 rfl
theorem guardL_bool {E : Env} {o : Oper} {l : List Oper} {all : Array Oper} {k : List It} {s : St} {w v : Bool} {R : Option (V × List (Nat → Option Ob))} (h1 : v = true → guardL E o l all k s w (some (.bool true)) = R) (h2 : v = false → guardL E o l all k s w (some (.bool false)) = R) : guardL E o l all k s w (some (.bool v)) = R := by
 cases v
 · exact h2 rfl
 · exact h1 rfl
theorem condL_t {E : Env} {a c : List It} {s : St} : condL E a c s (.bool true) = lim E a s := rfl
theorem condL_f {E : Env} {a c : List It} {s : St} : condL E a c s (.bool false) = lim E c s := rfl
theorem guardL_tt {E : Env} {o : Oper} {l : List Oper} {all : Array Oper} {k : List It} {s : St} : guardL E o l all k s true (some (.bool true)) = lim E (.ops (o :: l) all :: k) s := rfl
theorem guardL_ff {E : Env} {o : Oper} {l : List Oper} {all : Array Oper} {k : List It} {s : St} : guardL E o l all k s false (some (.bool false)) = lim E (.ops (o :: l) all :: k) s := rfl
theorem guardL_tf {E : Env} {o : Oper} {l : List Oper} {all : Array Oper} {k : List It} {s : St} : guardL E o l all k s true (some (.bool false)) = lim E (.ops l all :: k) (s.putO o.dst (.tup [])) := rfl
theorem guardL_ft {E : Env} {o : Oper} {l : List Oper} {all : Array Oper} {k : List It} {s : St} : guardL E o l all k s false (some (.bool true)) = lim E (.ops l all :: k) (s.putO o.dst (.tup [])) := rfl
attribute [go_sem] arr_empty u8 Option.isSome_some Option.isSome_none Nat.reduceMul Nat.reduceSub List.set_cons_zero List.set_cons_succ List.set_nil Bool.true_or Bool.or_true Bool.false_or List.isEmpty_cons List.headD_cons List.tail_cons heldP canonD dirs heldH_eq famD_nil Nat.reduceBNe Nat.reduceBEq aggO_s aggO_n buildL b_ft b_tf isMp wrap_0 wrap_1 wrap_lit Int.reduceLT Int.reduceLE Int.reduceAdd Int.reduceSub Int.reduceMul Int.reduceEq Int.reduceBEq Int.reduceBNe strOp convV sliceV appendV min2V max2V vLookup uMap findE putE buildF St.trees inOrder shiftV resT resTs condL_t condL_f guardL_tt guardL_ff guardL_tf guardL_ft V.ite
section
variable {E : Env} {ev : Run} {s : St} {d : Option Nat} {ty : TypeId} {pos : String} {aft : Array Edge} {g : Option (Nat × Bool)}
theorem x_move (x : Operand) : xval E ev { dst := d, op := .move x, type := ty, pos := pos, after := aft, guard := g } s = (evV E.P (E.H s.f) (d.getD 0) ty (.move x) s).map (·.1) := rfl
theorem x_assign (x : Operand) : xval E ev { dst := d, op := .assign x, type := ty, pos := pos, after := aft, guard := g } s = (evV E.P (E.H s.f) (d.getD 0) ty (.assign x) s).map (·.1) := rfl
theorem x_pick (x y z : Operand) : xval E ev { dst := d, op := .pick x y z, type := ty, pos := pos, after := aft, guard := g } s = (evV E.P (E.H s.f) (d.getD 0) ty (.pick x y z) s).map (·.1) := rfl
theorem x_build (u : TypeId) (ps : Array (Nat × Operand)) : xval E ev { dst := d, op := .build u ps, type := ty, pos := pos, after := aft, guard := g } s = (evV E.P (E.H s.f) (d.getD 0) ty (.build u ps) s).map (·.1) := rfl
theorem x_buildSlice (u : TypeId) (m : Nat) (ps : Array (Nat × Operand)) : xval E ev { dst := d, op := .buildSlice u m ps, type := ty, pos := pos, after := aft, guard := g } s = (evV E.P (E.H s.f) (d.getD 0) ty (.buildSlice u m ps) s).map (·.1) := rfl
theorem x_nilCheck (x : Operand) : xval E ev { dst := d, op := .nilCheck x, type := ty, pos := pos, after := aft, guard := g } s = (evV E.P (E.H s.f) (d.getD 0) ty (.nilCheck x) s).map (·.1) := rfl
theorem x_binOp (b : BinOp) (u v : TypeId) (x y : Operand) : xval E ev { dst := d, op := .binOp b u x y v, type := ty, pos := pos, after := aft, guard := g } s = (evV E.P (E.H s.f) (d.getD 0) ty (.binOp b u x y v) s).map (·.1) := rfl
theorem x_unOp (b : UnOp) (u : TypeId) (x : Operand) : xval E ev { dst := d, op := .unOp b u x, type := ty, pos := pos, after := aft, guard := g } s = (evV E.P (E.H s.f) (d.getD 0) ty (.unOp b u x) s).map (·.1) := rfl
theorem x_convert (u v : TypeId) (x : Operand) : xval E ev { dst := d, op := .convert u v x, type := ty, pos := pos, after := aft, guard := g } s = (evV E.P (E.H s.f) (d.getD 0) ty (.convert u v x) s).map (·.1) := rfl
theorem x_makeSlice (u : TypeId) (x y : Operand) : xval E ev { dst := d, op := .makeSlice u x y, type := ty, pos := pos, after := aft, guard := g } s = (evV E.P (E.H s.f) (d.getD 0) ty (.makeSlice u x y) s).map (·.1) := rfl
theorem x_slice (u : TypeId) (x : Operand) (a b m : Option Operand) : xval E ev { dst := d, op := .slice u x a b m, type := ty, pos := pos, after := aft, guard := g } s = (evV E.P (E.H s.f) (d.getD 0) ty (.slice u x a b m) s).map (·.1) := rfl
theorem x_fieldAddr (u : TypeId) (x : Operand) (f : Nat) : xval E ev { dst := d, op := .fieldAddr u x f, type := ty, pos := pos, after := aft, guard := g } s = (evV E.P (E.H s.f) (d.getD 0) ty (.fieldAddr u x f) s).map (·.1) := rfl
theorem x_field (u : TypeId) (x : Operand) (f : Nat) : xval E ev { dst := d, op := .field u x f, type := ty, pos := pos, after := aft, guard := g } s = (evV E.P (E.H s.f) (d.getD 0) ty (.field u x f) s).map (·.1) := rfl
theorem x_indexAddr (u : TypeId) (x i : Operand) : xval E ev { dst := d, op := .indexAddr u x i, type := ty, pos := pos, after := aft, guard := g } s = (evV E.P (E.H s.f) (d.getD 0) ty (.indexAddr u x i) s).map (·.1) := rfl
theorem x_index (u : TypeId) (x i : Operand) : xval E ev { dst := d, op := .index u x i, type := ty, pos := pos, after := aft, guard := g } s = (evV E.P (E.H s.f) (d.getD 0) ty (.index u x i) s).map (·.1) := rfl
theorem x_builtin (b : Builtin) (a : Array Operand) (c : Array TypeId) : xval E ev { dst := d, op := .call { callee := .builtin b, args := a, argTypes := c }, type := ty, pos := pos, after := aft, guard := g } s = (evV E.P (E.H s.f) (d.getD 0) ty (.call { callee := .builtin b, args := a, argTypes := c }) s).map (·.1) := rfl
theorem x_extract (u i : Nat) : xval E ev { dst := d, op := .extract (.tmp u) i, type := ty, pos := pos, after := aft, guard := g } s = match s.t u with | .tup l => (l[i]?).map (extV (E.H s.f) (d.getD 0)) | _ => none := rfl
end
section
variable {E : Env} {ev : Run} {s : St} {d : Option Nat} {ty : TypeId} {pos : String} {aft : Array Edge} {g : Option (Nat × Bool)}
theorem l_load (t : TypeId) (x : Operand) : lval E ev { dst := d, op := .load t x, type := ty, pos := pos, after := aft, guard := g } s = (evV E.P (E.H s.f) (d.getD 0) ty (.load t x) s).map (·.1) := rfl
theorem l_lookup (t : TypeId) (x i : Operand) (o : Bool) : lval E ev { dst := d, op := .lookup t x i o, type := ty, pos := pos, after := aft, guard := g } s = (evV E.P (E.H s.f) (d.getD 0) ty (.lookup t x i o) s).map (·.1) := rfl
end
theorem all_nil' {p : V → Bool} : List.all [] p = true := rfl
theorem all_cons' {p : V → Bool} {a : V} {l : List V} : List.all (a :: l) p = (p a && List.all l p) := rfl
theorem drawL_s {E : Env} {k : List It} {s : St} : drawL E k (some s) = lim E k s := rfl
attribute [go_sem] St.lv St.ob obIn St.setOb setIn V.flat vLoad uStore faddr_p faddr_i fget_a vIndexAddr pack setL List.drop_succ_cons List.drop_zero List.take_succ_cons List.take_zero List.drop_nil List.take_nil cellOk lowV toNat_cast all_nil' all_cons' List.getD_cons_zero List.getD_cons_succ List.length_map Bool.and_self Bool.true_and Bool.and_true Int.reduceNeg Int.reduceToNat drawL_s keepO heldC evU List.headD_cons decide_true decide_false List.map_cons List.map_nil Int.cast_ofNat_Int Int.le_refl List.length_set List.length_append List.length_replicate List.length_take List.length_drop
attribute [go_sem] Option.getD_none d_nil set_cut cuts V.cut extV d_cons drL_some drL_none drL_ite dstep guardS isX.eq_def isL dynX inDst x_call xcL_f xcV_n xcV_s x_move x_assign x_pick x_build x_buildSlice x_nilCheck x_binOp x_unOp x_convert x_makeSlice x_slice x_fieldAddr x_field x_indexAddr x_index x_builtin x_extract l_load l_lookup St.setX set_nil set_cons drops Bool.not_false orderOf List.range_succ List.range_zero tmpsOf Option.all_some List.getElem?_toArray List.getElem?_cons_zero List.getElem?_cons_succ
end Go.Ev
namespace Go.Ev
open Go
theorem orc_idx {E : Env} {N : Nat} (hE : ∀ g vs, E.orc g vs = if g = N then idxO vs else none) (hf : ∃ fn c, E.P.funcs[N]? = some fn ∧ (fn.name == "runtime.NumGoroutine") = false ∧ fn.body = some c)
   (hc : ∀ (s : ByteArray) (c : Int) (w : World), Calls E.P N #[.string s, .int .u8 c] w fun e w' => e = .returned (.int .i64 (idxB s c)) ∧ w' = w) : OrcOk E := by
 intro g vs v h _
 rw [hE] at h
 split at h
 · rename_i hg
   subst hg
   obtain ⟨fn, c, h1, h2, h3⟩ := hf
   refine ⟨fn, c, h1, h2, h3, ?_⟩
   unfold idxO at h
   split at h
   · rename_i s b _
     obtain rfl := Option.some.inj h
     intro S w cargs hl hT hS
     have t0 := hT 0 (by simp)
     have t1 := hT 1 (by simp)
     have e : cargs = #[.string s, .int .u8 b] := by
       match cargs, hl with
       | ⟨[x, y]⟩, _ =>
         simp only [List.getD_cons_zero, List.getD_cons_succ, Array.getD] at t0 t1
         cases t0
         cases t1
         rfl
     subst e
     refine (hc s b w).mono ?_
     rintro e w' ⟨rfl, rfl⟩
     refine ⟨_, _, rfl, ⟨fun β => ?_, Fr.refl _ _ _, rfl, fun l t ob h => by simp [obIn] at h, fun l t g h => by omega, fun g j c h => hS g j c h, fun g p h => by cases h⟩⟩
     exact Tr.int .i64 _
   · cases h
 · cases h
end Go.Ev
namespace Go.Ev
open Go
structure Rx where
 kind : Int
 letter : ByteArray
 args : List Rx
theorem Rx.lt (r : Rx) {x : Rx} (h : x ∈ r.args) : SizeOf.sizeOf x < SizeOf.sizeOf r := by
 have h1 := List.sizeOf_lt_of_mem h
 cases r
 simp only [Rx.mk.sizeOf_spec]
 dsimp only at h1
 omega
def Rx.enc (r : Rx) : V := .agg [.int .i64 r.kind, .str r.letter, .slc false 3 (r.args.map Rx.enc)]
 termination_by SizeOf.sizeOf r
 decreasing_by exact Rx.lt _ ‹_›
theorem Rx.enc_eq (r : Rx) : r.enc = .agg [.int .i64 r.kind, .str r.letter, .slc false 3 (r.args.map Rx.enc)] := by rw [Rx.enc]
structure Vals where
 x : ByteArray
 y : ByteArray
 z : ByteArray
def Vals.cells (v : Vals) : List V := [.str v.x, .str v.y, .str v.z]
def Vals.enc (v : Vals) : V := .agg [.str v.x, .str v.y, .str v.z]
structure Mor where
 a : ByteArray
 b : ByteArray
 c : ByteArray
def Mor.enc (v : Mor) : V := .agg [.str v.a, .str v.b, .str v.c]
structure Sta where
 left : ByteArray
 right : ByteArray
 maps : List Int
def Sta.enc (s : Sta) : V := .agg [.str s.left, .str s.right, .slc false 1 (s.maps.map I)]
structure Con where
 kind : Int
 left : ByteArray
 right : ByteArray
 regex : Rx
 coeffs : List Int
 bound : Int
def Con.enc (c : Con) : V := .agg [.int .i64 c.kind, .str c.left, .str c.right, .int .i64 c.regex.kind, .str c.regex.letter, .slc false 3 (c.regex.args.map Rx.enc), .slc false 1 (c.coeffs.map I), .int .i64 c.bound]
structure Line where
 kind : Int
 text : ByteArray
 mor : Mor
 regex : Rx
def Line.enc (l : Line) : V := .agg [.int .i64 l.kind, .str l.text, .str l.mor.a, .str l.mor.b, .str l.mor.c, .int .i64 l.regex.kind, .str l.regex.letter, .slc false 3 (l.regex.args.map Rx.enc)]
structure Ans where
 code : Int
 vals : Vals
 nodes : List Sta
 bound : Int
def Ans.enc (a : Ans) : V := .agg [.int .i64 a.code, .str a.vals.x, .str a.vals.y, .str a.vals.z, .slc false 3 (a.nodes.map Sta.enc), .int .i64 a.bound]
structure Equ where
 left : ByteArray
 right : ByteArray
def Equ.enc (e : Equ) : V := .agg [.str e.left, .str e.right]
structure Mon where
 maps : List (List Int)
 letters : List Int
 product : List (List Int)
def Mon.enc (m : Mon) : V := .agg [.slc false 1 (m.maps.map IL), .slc false 1 (m.letters.map I), .slc false 1 (m.product.map IL)]
structure Frm where
 equ : Equ
 mon : Mon
 allowed : List (List Int)
def Frm.enc (f : Frm) : V := .agg [.str f.equ.left, .str f.equ.right, .slc false 1 (f.mon.maps.map IL), .slc false 1 (f.mon.letters.map I), .slc false 1 (f.mon.product.map IL), .slc false 1 (f.allowed.map IL)]
structure Mov where
 name : Int
 by_ : ByteArray
def Mov.enc (m : Mov) : V := .agg [.int .u8 m.name, .str m.by_]
structure Stp where
 move : Mov
 to : Sta
def Stp.enc (s : Stp) : V := .agg [.int .u8 s.move.name, .str s.move.by_, .str s.to.left, .str s.to.right, .slc false 1 (s.to.maps.map I)]
attribute [go_sem] Equ.enc Mon.enc Frm.enc Mov.enc Stp.enc IL I
structure Dfa where
 accept : List Bool
 next : List (List Int)
def Dfa.enc (d : Dfa) : V := .agg [.slc false 1 (d.accept.map B), .slc false 1 (d.next.map IL)]
attribute [go_sem] Dfa.enc B Sv
structure Prob where
 list : List Con
def Prob.enc (p : Prob) : V := .agg [.slc false 8 (p.list.map Con.enc)]
structure Prog where
 lines : List Line
def Prog.enc (p : Prog) : V := .agg [.slc false 8 (p.lines.map Line.enc)]
structure Ses where
 prob : Prob
 ans : Ans
 prog : Prog
def Ses.enc (s : Ses) : V := .agg [.slc false 8 (s.prob.list.map Con.enc), .int .i64 s.ans.code, .str s.ans.vals.x, .str s.ans.vals.y, .str s.ans.vals.z, .slc false 3 (s.ans.nodes.map Sta.enc), .int .i64 s.ans.bound, .slc false 8 (s.prog.lines.map Line.enc)]
attribute [go_sem] Prob.enc Prog.enc
attribute [go_sem] Rx.enc_eq Vals.enc Mor.enc Sta.enc Con.enc Line.enc Ans.enc Ses.enc
end Go.Ev
namespace Go.Ev
open Go
theorem bt_nonneg (s : ByteArray) (i : Int) : 0 ≤ bt s i := by unfold bt; split <;> omega
theorem bt_lt (s : ByteArray) (i : Int) : bt s i < 256 := by
 unfold bt
 split
 · rename_i h
   have := (s[i.toNat]'h).toNat_lt
   omega
 · omega
def ltr (c : Int) : Int := if c = 97 then 0 else if c = 98 then 1 else if c = 99 then 2 else -1
def isVar (c : Int) : Bool := decide (88 ≤ c) && decide (c ≤ 90)
theorem idx_abc (c : Int) (h : 0 ≤ c) (h' : c < 256) : idxB ⟨#[97, 98, 99]⟩ c = ltr c := by
 obtain ⟨n, rfl⟩ : ∃ n : Nat, c = n := ⟨c.toNat, by omega⟩
 have hn : n < 256 := by omega
 unfold idxB ltr
 rw [Int.toNat_natCast]
 have : ∀ n : Fin 256, Go.Lib.indexByte (#[97, 98, 99] : Array UInt8).toList n.val.toUInt8 = if (n.val : Int) = 97 then 0 else if (n.val : Int) = 98 then 1 else if (n.val : Int) = 99 then 2 else -1 := by decide +kernel
 exact this ⟨n, hn⟩
theorem idx_XYZ (c : Int) (h : 0 ≤ c) (h' : c < 256) : idxB ⟨#[88, 89, 90]⟩ c = if isVar c then c - 88 else -1 := by
 obtain ⟨n, rfl⟩ : ∃ n : Nat, c = n := ⟨c.toNat, by omega⟩
 have hn : n < 256 := by omega
 unfold idxB isVar
 rw [Int.toNat_natCast]
 have : ∀ n : Fin 256, Go.Lib.indexByte (#[88, 89, 90] : Array UInt8).toList n.val.toUInt8 = if (decide (88 ≤ (n.val : Int)) && decide ((n.val : Int) ≤ 90)) = true then (n.val : Int) - 88 else -1 := by decide +kernel
 exact this ⟨n, hn⟩
theorem isVar_idx (c : Int) (h : 0 ≤ c) (h' : c < 256) : decide (idxB ⟨#[88, 89, 90]⟩ c ≥ 0) = isVar c := by
 rw [idx_XYZ c h h']
 cases e : isVar c
 · simp
 · have : 88 ≤ c := by unfold isVar at e; simp at e; omega
   simp; omega
def allB (p : Int → Bool) (s : ByteArray) (i : Nat) : Bool := if i < s.size then p (bt s i) && allB p s (i + 1) else true
 termination_by s.size - i
theorem allB_next (p : Int → Bool) (s : ByteArray) {i : Nat} (h : i < s.size) : allB p s i = (p (bt s i) && allB p s (i + 1)) := by rw [allB, if_pos h]
theorem allB_end (p : Int → Bool) (s : ByteArray) {i : Nat} (h : ¬ i < s.size) : allB p s i = true := by rw [allB, if_neg h]
def cntB (b : Int) (s : ByteArray) (i : Nat) : Nat := if i < s.size then (if bt s i = b then 1 else 0) + cntB b s (i + 1) else 0
 termination_by s.size - i
theorem cntB_next (b : Int) (s : ByteArray) {i : Nat} (h : i < s.size) : cntB b s i = (if bt s i = b then 1 else 0) + cntB b s (i + 1) := by rw [cntB, if_pos h]
theorem cntB_end (b : Int) (s : ByteArray) {i : Nat} (h : ¬ i < s.size) : cntB b s i = 0 := by rw [cntB, if_neg h]
def sideB (c : Int) : Bool := c == 35 || decide (0 ≤ ltr c) || isVar c
theorem bt_extract (s : ByteArray) (a b i : Nat) (h : a + i < b) (hb : b ≤ s.size) : bt (s.extract a b) (i : Int) = bt s ((a + i : Nat) : Int) := by
 have h1 : i < (s.extract a b).size := by simp; omega
 have h2 : a + i < s.size := by omega
 unfold bt
 simp only [Int.toNat_natCast, h1, h2, dif_pos, ByteArray.getElem_extract]
theorem bytes_toList (s : ByteArray) : s.toList = s.data.toList := by
 unfold ByteArray.toList
 rw [ByteArray.toList_loop_eq s s.size 0 [] (by omega) (by omega)]
 simp
theorem toList_inj {a b : ByteArray} : a.toList = b.toList ↔ a = b := by
 rw [bytes_toList, bytes_toList]
 constructor
 · intro h
   exact ByteArray.ext (Array.ext' h)
 · rintro rfl; rfl
theorem toList_beq (a b : ByteArray) : (a.toList == b.toList) = decide (a = b) := by
 by_cases h : a = b
 · subst h; simp
 · have : ¬ a.toList = b.toList := fun e => h (toList_inj.1 e)
   simp [h, this]
theorem toList_nil (s : ByteArray) : (s.toList == (ByteArray.mk #[]).toList) = decide (s.size = 0) := by
 rw [toList_beq]
 congr 1
 apply propext
 constructor
 · rintro rfl; rfl
 · intro h
   apply ByteArray.ext
   exact Array.eq_empty_of_size_eq_zero h
def ext (s : ByteArray) (k : Nat) : ByteArray := s.extract k s.size
theorem ext_size (s : ByteArray) (k : Nat) : (ext s k).size = s.size - k := by simp [ext]
theorem ext_zero (s : ByteArray) : ext s 0 = s := by simp [ext]
theorem ext_bt (s : ByteArray) (k i : Nat) (h : k + i < s.size) : bt (ext s k) (i : Int) = bt s ((k + i : Nat) : Int) := bt_extract s k s.size i h (Nat.le_refl _)
theorem ext_bt0 (s : ByteArray) (k : Nat) (h : k < s.size) : bt (ext s k) 0 = bt s (k : Int) := ext_bt s k 0 (by omega)
theorem ext_ext (s : ByteArray) (k : Nat) : (ext s k).extract 1 (s.size - k) = ext s (k + 1) := by
 apply ByteArray.ext
 unfold ext
 simp only [ByteArray.data_extract]
 apply Array.ext'
 simp only [Array.toList_extract, List.extract_eq_take_drop] 
 have e : s.data.toList.length = s.size := by simp
 rw [List.take_of_length_le (l := s.data.toList.drop k) (by simp)]
 rw [List.drop_drop, List.take_of_length_le (by simp; omega), List.take_of_length_le (by simp)]
def lcp (l r : ByteArray) (k : Nat) : Nat := if k < l.size ∧ k < r.size ∧ bt l k = bt r k then lcp l r (k + 1) else k
 termination_by l.size - k
theorem lcp_next {l r : ByteArray} {k : Nat} (h1 : k < l.size) (h2 : k < r.size) (h3 : bt l k = bt r k) : lcp l r k = lcp l r (k + 1) := by rw [lcp, if_pos ⟨h1, h2, h3⟩]
theorem lcp_end {l r : ByteArray} {k : Nat} (h : ¬ (k < l.size ∧ k < r.size ∧ bt l k = bt r k)) : lcp l r k = k := by rw [lcp, if_neg h]
def strip (e : Equ) : Equ := ⟨ext e.left (lcp e.left e.right 0), ext e.right (lcp e.left e.right 0)⟩
theorem bytesV_append (a b : ByteArray) : bytesV (a ++ b) = bytesV a ++ bytesV b := by
 unfold bytesV
 rw [ByteArray.data_append]
 simp
theorem bytesV_len (a : ByteArray) : (bytesV a).length = a.size := by
 unfold bytesV
 simp
theorem bytesV_one (s : ByteArray) (i : Nat) (h : i < s.size) : bytesV (s.extract i (i + 1)) = [.int .u8 (bt s (i : Int))] := by
 unfold bytesV
 rw [ByteArray.data_extract]
 have h' : i < s.data.size := h
 have e : (s.data.extract i (i + 1)).toList = [s.data[i]] := by
   apply List.ext_getElem
   · simp; omega
   · intro j h1 h2
     simp at h1
     have : j = 0 := by omega
     subst this
     simp
 rw [e]
 simp [bt, h]
 rfl
theorem u8s_bytesV (l : List UInt8) : mapOpt u8 (l.map fun b => V.int .u8 (b.toNat : Int)) = some (l.map fun b => (b.toNat : Int)) := by
 induction l with
 | nil => rfl
 | cons a l ih => simp only [List.map_cons, mapOpt, u8, ih]
theorem ofInts_bytes (l : List UInt8) : ∀ r : ByteArray, (l.map fun b => (b.toNat : Int)).foldl (fun r n => r.push (UInt8.ofNat n.toNat)) r = r ++ ⟨l.toArray⟩ := by
 induction l with
 | nil => intro r; apply ByteArray.ext; simp [ByteArray.data_append]
 | cons a l ih =>
   intro r
   rw [List.map_cons, List.foldl_cons, ih]
   apply ByteArray.ext
   simp [ByteArray.data_append, ByteArray.data_push]
theorem ofInts_bytesV (s : ByteArray) : ofInts (s.data.toList.map fun b => (b.toNat : Int)) = s := by
 unfold ofInts
 rw [ofInts_bytes]
 apply ByteArray.ext
 simp [ByteArray.data_append]
theorem u8_bytesV (s : ByteArray) : mapOpt u8 (bytesV s) = some (s.data.toList.map fun b => (b.toNat : Int)) := u8s_bytesV _
def one (s : ByteArray) (i : Nat) : ByteArray := s.extract i (i + 1)
theorem one_size (s : ByteArray) (i : Nat) (h : i < s.size) : (one s i).size = 1 := by unfold one; simp; omega
def repl (by_ : Nat → ByteArray) (s : ByteArray) (i : Nat) (out : ByteArray) : ByteArray := if i < s.size then (if (out ++ by_ i).size > 1048576 then ⟨#[]⟩ else repl by_ s (i + 1) (out ++ by_ i)) else out
 termination_by s.size - i
theorem repl_next {by_ : Nat → ByteArray} {s : ByteArray} {i : Nat} {out : ByteArray} (h : i < s.size) : repl by_ s i out = if (out ++ by_ i).size > 1048576 then ⟨#[]⟩ else repl by_ s (i + 1) (out ++ by_ i) := by rw [repl, if_pos h]
theorem repl_end {by_ : Nat → ByteArray} {s : ByteArray} {i : Nat} {out : ByteArray} (h : ¬ i < s.size) : repl by_ s i out = out := by rw [repl, if_neg h]
def repV (s : ByteArray) (name : Int) (by_ : ByteArray) : ByteArray := repl (fun i => if bt s i = name then by_ else one s i) s 0 ⟨#[]⟩
end Go.Ev
namespace Go.Ev
def clash (e : Equ) : Bool := if e.left.size = 0 ∨ e.right.size = 0 then !allB isVar (e.left ++ e.right) 0 else !isVar (bt e.left 0) && !isVar (bt e.right 0)
theorem strip_le (e : Equ) : (strip e).left.size ≤ e.left.size ∧ (strip e).right.size ≤ e.right.size := by
 unfold strip
 simp only [ext_size]
 omega
end Go.Ev
namespace Go.Ev
theorem repl_le (by_ : Nat → ByteArray) (s : ByteArray) : ∀ (n i : Nat) (out : ByteArray), s.size - i ≤ n → out.size ≤ 1048576 → (repl by_ s i out).size ≤ 1048576 := by
 intro n
 induction n with
 | zero => intro i out h ho; rw [repl_end (by omega)]; exact ho
 | succ n ih =>
   intro i out h ho
   by_cases hi : i < s.size
   · rw [repl_next hi]
     split
     · decide
     · exact ih _ _ (by omega) (by omega)
   · rw [repl_end hi]; exact ho
theorem repV_le (s : ByteArray) (c : Int) (b : ByteArray) : (repV s c b).size ≤ 1048576 := repl_le _ _ _ 0 _ (Nat.le_refl _) (by decide)
def pair (a b : Int) : ByteArray := ofInts [a, b]
theorem pair_bytes (a b : Int) : ofInts [a, b] = pair a b := rfl
theorem pair_size (a b : Int) : (pair a b).size = 2 := rfl
def first2 (a b : Int) : List Mov := if isVar a = true then (if (isVar b || decide (0 ≤ ltr b)) = true then [⟨a, ⟨#[]⟩⟩, ⟨a, pair b a⟩] else [⟨a, ⟨#[]⟩⟩]) else []
def moves (s : Equ) : List Mov :=
 if s.left.size = 0 ∧ s.right.size = 0 ∨ clash s = true then []
 else if s.left.size = 0 then [⟨bt s.right 0, ⟨#[]⟩⟩]
 else if s.right.size = 0 then [⟨bt s.left 0, ⟨#[]⟩⟩]
 else first2 (bt s.left 0) (bt s.right 0) ++ first2 (bt s.right 0) (bt s.left 0)
end Go.Ev
namespace Go.Ev
def isLtr (c : Int) : Bool := decide (0 ≤ ltr c)
def isWord (s : ByteArray) : Bool := decide (s.size ≤ 30) && allB isLtr s 0
end Go.Ev
namespace Go.Ev
def small (s : ByteArray) : Bool := isWord s && decide (s.size ≤ 3)
def isMor (m : Mor) : Bool := small m.a && (small m.b && small m.c)
def zeroR (r : Rx) : Bool := (r.kind == 0) && (decide (r.letter.size = 0) && ((r.args.length : Int) == 0))
end Go.Ev
namespace Go.Ev
open Go
def posP {α : Type} (p : α → Bool) : List α → Nat → Int
 | [], _ => -1
 | x :: l, i => if p x = true then (i : Int) else posP p l (i + 1)
end Go.Ev
namespace Go.Ev
open Go
def stillOk (P : Program) (H : Hint) (all : Array Oper) : List Nat → List Nat → Bool
 | _, [] => true
 | seen, i :: c => match all[i]? with
   | some o => if isX P H o then stillOk P H all seen c else if isL H o then stillOk P H all (i :: seen) c else seen.all (fun k => prec all all.size k i) && stillOk P H all seen c
   | none => false
noncomputable def dstepS (E : Env) (ev : Run) (all : Array Oper) (i : Nat) (s : St) : Option St := match all[i]? with
 | none => none
 | some o => match guardS all o s with
   | none => none
   | some false => some (s.putO o.dst (.tup []))
   | some true =>
     if isX E.P (E.H s.f) o then (if dynX E.P o s && inDst s o then (xval E ev o s).map fun v => s.setX (E.H s.f) o v else none)
     else if isL (E.H s.f) o then (if inDst s o then (lval E ev o s).map fun v => s.setX (E.H s.f) o v else none)
     else stepOV E ev o s
noncomputable def drunS (E : Env) (ev : Run) (all : Array Oper) : List Nat → St → Option St
 | [], s => some s
 | i :: c, s => (dstepS E ev all i s).bind fun s1 => drunS E ev all c s1
theorem still_prec {E : Env} {ev : Run} {all : Array Oper} {i : Nat} {s : St} : ∀ {done : List (Nat × V)}, (∀ p ∈ done, prec all all.size p.1 i = true) → still E ev all i s done = true := by
 intro done
 induction done with
 | nil => intro _; rfl
 | cons p done ih =>
   intro h
   obtain ⟨k, v⟩ := p
   unfold still
   rw [h (k, v) (List.mem_cons_self ..), ih fun q hq => h q (List.mem_cons_of_mem _ hq)]
   rfl
theorem drun_S {E : Env} {ev : Run} {all : Array Oper} : ∀ (c : List Nat) (s : St) (done : List (Nat × V)) (seen : List Nat), (∀ p ∈ done, p.1 ∈ seen) → stillOk E.P (E.H s.f) all seen c = true → drun E ev all c s done = drunS E ev all c s := by
 intro c
 induction c with
 | nil => intro s done seen _ _; rfl
 | cons i c ih =>
   intro s done seen hd hk
   unfold drun drunS
   have key : ∀ {s1 : St} {d1 : List (Nat × V)} {seen1 : List Nat}, dstep E ev all i s done = some (s1, d1) → dstepS E ev all i s = some s1 → (∀ p ∈ d1, p.1 ∈ seen1) → stillOk E.P (E.H s.f) all seen1 c = true → (dstep E ev all i s done).bind (fun r => drun E ev all c r.1 r.2) = (dstepS E ev all i s).bind fun s1 => drunS E ev all c s1 := by
     intro s1 d1 seen1 h1 h2 h3 h4
     have hf := dstep_f h1
     rw [h1, h2]
     show drun E ev all c s1 d1 = drunS E ev all c s1
     exact ih s1 d1 seen1 h3 (by rw [hf]; exact h4)
   have none' : dstep E ev all i s done = none → dstepS E ev all i s = none → (dstep E ev all i s done).bind (fun r => drun E ev all c r.1 r.2) = (dstepS E ev all i s).bind fun s1 => drunS E ev all c s1 := by
     intro h1 h2
     rw [h1, h2]
     rfl
   unfold stillOk at hk
   cases ho : all[i]? with
   | none => rw [ho] at hk; cases hk
   | some o =>
     rw [ho] at hk
     dsimp only at hk
     cases hg : guardS all o s with
     | none => exact none' (by unfold dstep; rw [ho]; dsimp only; rw [hg]) (by unfold dstepS; rw [ho]; dsimp only; rw [hg])
     | some b =>
       cases b with
       | false =>
         have a1 : dstep E ev all i s done = some (s.putO o.dst (.tup []), done) := by unfold dstep; rw [ho]; dsimp only; rw [hg]
         have a2 : dstepS E ev all i s = some (s.putO o.dst (.tup [])) := by unfold dstepS; rw [ho]; dsimp only; rw [hg]
         by_cases hx : isX E.P (E.H s.f) o = true
         · rw [if_pos hx] at hk
           exact key a1 a2 hd hk
         · rw [if_neg hx] at hk
           by_cases hl : isL (E.H s.f) o = true
           · rw [if_pos hl] at hk
             exact key a1 a2 (fun p hp => List.mem_cons_of_mem _ (hd p hp)) hk
           · rw [if_neg hl] at hk
             exact key a1 a2 hd (Bool.and_eq_true_iff.1 hk).2
       | true =>
         by_cases hx : isX E.P (E.H s.f) o = true
         · rw [if_pos hx] at hk
           by_cases hc : (dynX E.P o s && inDst s o) = true
           · cases hv : xval E ev o s with
             | none => exact none' (by unfold dstep; rw [ho]; dsimp only; rw [hg]; dsimp only; rw [if_pos hx, if_pos hc, hv]; rfl) (by unfold dstepS; rw [ho]; dsimp only; rw [hg]; dsimp only; rw [if_pos hx, if_pos hc, hv]; rfl)
             | some v => exact key (by unfold dstep; rw [ho]; dsimp only; rw [hg]; dsimp only; rw [if_pos hx, if_pos hc, hv]; rfl) (by unfold dstepS; rw [ho]; dsimp only; rw [hg]; dsimp only; rw [if_pos hx, if_pos hc, hv]; rfl) hd hk
           · exact none' (by unfold dstep; rw [ho]; dsimp only; rw [hg]; dsimp only; rw [if_pos hx, if_neg hc]) (by unfold dstepS; rw [ho]; dsimp only; rw [hg]; dsimp only; rw [if_pos hx, if_neg hc])
         · rw [if_neg hx] at hk
           by_cases hl : isL (E.H s.f) o = true
           · rw [if_pos hl] at hk
             by_cases hc : inDst s o = true
             · cases hv : lval E ev o s with
               | none => exact none' (by unfold dstep; rw [ho]; dsimp only; rw [hg]; dsimp only; rw [if_neg hx, if_pos hl, if_pos hc, hv]; rfl) (by unfold dstepS; rw [ho]; dsimp only; rw [hg]; dsimp only; rw [if_neg hx, if_pos hl, if_pos hc, hv]; rfl)
               | some v =>
                 refine key (d1 := (i, v) :: done) (by unfold dstep; rw [ho]; dsimp only; rw [hg]; dsimp only; rw [if_neg hx, if_pos hl, if_pos hc, hv]; rfl) (by unfold dstepS; rw [ho]; dsimp only; rw [hg]; dsimp only; rw [if_neg hx, if_pos hl, if_pos hc, hv]; rfl) ?_ hk
                 intro p hp
                 rcases List.mem_cons.1 hp with rfl | hp
                 · exact List.mem_cons_self ..
                 · exact List.mem_cons_of_mem _ (hd p hp)
             · exact none' (by unfold dstep; rw [ho]; dsimp only; rw [hg]; dsimp only; rw [if_neg hx, if_pos hl, if_neg hc]) (by unfold dstepS; rw [ho]; dsimp only; rw [hg]; dsimp only; rw [if_neg hx, if_pos hl, if_neg hc])
           · rw [if_neg hl] at hk
             obtain ⟨k1, k2⟩ := Bool.and_eq_true_iff.1 hk
             have hs : ∀ s1, still E ev all i s1 done = true := fun s1 => still_prec fun p hp => List.all_eq_true.1 k1 _ (hd p hp)
             cases hv : stepOV E ev o s with
             | none => exact none' (by unfold dstep; rw [ho]; dsimp only; rw [hg]; dsimp only; rw [if_neg hx, if_neg hl, hv]) (by unfold dstepS; rw [ho]; dsimp only; rw [hg]; dsimp only; rw [if_neg hx, if_neg hl, hv])
             | some s1 => exact key (by unfold dstep; rw [ho]; dsimp only; rw [hg]; dsimp only; rw [if_neg hx, if_neg hl, hv]; dsimp only; rw [if_pos (hs s1)]) (by unfold dstepS; rw [ho]; dsimp only; rw [hg]; dsimp only; rw [if_neg hx, if_neg hl, hv]) hd k2
noncomputable def drawS (E : Env) (k : List It) (all : Array Oper) (c : List Nat) (s : St) : Option (V × List (Nat → Option Ob)) := drawL E k (drunS E (Ev.lim E) all c s)
noncomputable def drSL (E : Env) (k : List It) (all : Array Oper) (c : List Nat) : Option St → Option (V × List (Nat → Option Ob))
 | some s => drawS E k all c s
 | none => none
section
variable {E : Env} {k : List It} {all : Array Oper} {c : List Nat} {s : St}
theorem e_nil : drawS E k all [] s = lim E k s := rfl
theorem e_cons (i : Nat) : drawS E k all (i :: c) s = drSL E k all c (dstepS E (Ev.lim E) all i s) := by
 show drawL E k (Option.bind _ _) = _
 cases h : dstepS E (Ev.lim E) all i s with
 | none => rfl
 | some r => rfl
theorem drSL_some : drSL E k all c (some s) = drawS E k all c s := rfl
theorem drSL_none : drSL E k all c none = none := rfl
theorem drSL_ite {p : Prop} [Decidable p] (x y : Option St) : drSL E k all c (if p then x else y) = if p then drSL E k all c x else drSL E k all c y := by split <;> rfl
theorem q_drs (i : Nat) {os : Array Oper} (h : (drawOk E.P (E.H s.f) os (orderOf (E.H s.f) i os.size) && stillOk E.P (E.H s.f) os [] (orderOf (E.H s.f) i os.size)) = true) : lim E (.code (.region i os true) :: k) s = drawS E k os (orderOf (E.H s.f) i os.size) s := by
 obtain ⟨h1, h2⟩ := Bool.and_eq_true_iff.1 h
 rw [q_drawn i h1]
 show drawL E k _ = drawL E k _
 rw [drun_S _ _ _ _ (fun p hp => by cases hp) h2]
variable {ev : Run} {d : Option Nat} {ty : TypeId} {pos : String} {aft : Array Edge} {g : Option (Nat × Bool)}
def putS (d : Nat) (n : Nat) : Option (V × St) → Option St
 | some (v, s) => if d < n then some (s.put d v) else none
 | none => none
theorem putS_s (d n : Nat) (v : V) : putS d n (some (v, s)) = if d < n then some (s.put d v) else none := rfl
theorem putS_n (d n : Nat) : putS d n none = none := rfl
theorem put_eq (d : Nat) (op : Op) (P : Program) (H : Hint) : (if d < s.n then (evV P H d ty op s).map fun r => r.2.put d r.1 else none) = putS d s.n (evV P H d ty op s) := by
 cases evV P H d ty op s with
 | none => split <;> rfl
 | some r => obtain ⟨v, s1⟩ := r; split <;> rename_i h <;> simp [putS, h]
theorem w_alloc (d : Nat) (t : TypeId) : stepOV E ev { dst := some d, op := .alloc t, type := ty, pos := pos, after := aft, guard := g } s = putS d s.n (evV E.P (E.H s.f) d ty (.alloc t) s) := put_eq ..
theorem w_box (d : Nat) (t : TypeId) (x : Operand) : stepOV E ev { dst := some d, op := .box t x, type := ty, pos := pos, after := aft, guard := g } s = putS d s.n (evV E.P (E.H s.f) d ty (.box t x) s) := put_eq ..
theorem w_load (d : Nat) (t : TypeId) (x : Operand) : stepOV E ev { dst := some d, op := .load t x, type := ty, pos := pos, after := aft, guard := g } s = putS d s.n (evV E.P (E.H s.f) d ty (.load t x) s) := put_eq ..
theorem w_makeSlice (d : Nat) (t : TypeId) (x y : Operand) : stepOV E ev { dst := some d, op := .makeSlice t x y, type := ty, pos := pos, after := aft, guard := g } s = putS d s.n (evV E.P (E.H s.f) d ty (.makeSlice t x y) s) := put_eq ..
theorem w_buildSlice (d : Nat) (t : TypeId) (m : Nat) (ps : Array (Nat × Operand)) : stepOV E ev { dst := some d, op := .buildSlice t m ps, type := ty, pos := pos, after := aft, guard := g } s = putS d s.n (evV E.P (E.H s.f) d ty (.buildSlice t m ps) s) := put_eq ..
theorem w_builtin (d : Nat) (b : Builtin) (a : Array Operand) (c : Array TypeId) : stepOV E ev { dst := some d, op := .call { callee := .builtin b, args := a, argTypes := c }, type := ty, pos := pos, after := aft, guard := g } s = putS d s.n (evV E.P (E.H s.f) d ty (.call { callee := .builtin b, args := a, argTypes := c }) s) := put_eq ..
theorem w_store (t : TypeId) (a x : Operand) : stepOV E ev { dst := none, op := .store t a x, type := ty, pos := pos, after := aft, guard := g } s = evU E.P (E.H s.f) (.store t a x) s := rfl
noncomputable def backO (s : St) (plain : Bool × Bool × Bool) (d : Option Nat) : Option (V × List (Nat → Option Ob)) → Option St
 | some r => some (backS s plain d r.1 r.2)
 | none => none
theorem backO_s (plain : Bool × Bool × Bool) (d : Option Nat) (v : V) (o : List (Nat → Option Ob)) : backO s plain d (some (v, o)) = some (backS s plain d v o) := rfl
noncomputable def orcS (E : Env) (g : Nat) (vs : List V) (s : St) (d : Option Nat) : Option V → Option St
 | some v => some (s.putO d v)
 | none => backO s (true, setF E g d s, false) d (run E g vs [])
theorem orcS_n (g : Nat) (vs : List V) : orcS E g vs s d none = backO s (true, setF E g d s, false) d (run E g vs []) := rfl
theorem orcS_s (g : Nat) (vs : List V) (v : V) : orcS E g vs s d (some v) = some (s.putO d v) := rfl
noncomputable def callS (E : Env) (d : Option Nat) : V → Option (List V × St) → Option St
 | .fn g caps, some (vs, s1) => if ((vs ++ caps).any isRef || !caps.isEmpty) = true then backO s1 (false, setF E g d s1, false) d (run E g (vs ++ caps) (s1.b :: s1.o)) else orcS E g (vs ++ caps) s1 d (E.orc g (vs ++ caps))
 | _, _ => none
theorem callS_s (g : Nat) (caps vs : List V) : callS E d (.fn g caps) (some (vs, s)) = if ((vs ++ caps).any isRef || !caps.isEmpty) = true then backO s (false, setF E g d s, false) d (run E g (vs ++ caps) (s.b :: s.o)) else orcS E g (vs ++ caps) s d (E.orc g (vs ++ caps)) := rfl
theorem hr_call (d : Nat) (g : Nat) (vs : List V) (o : List (Nat → Option Ob)) (plain : Bool × Bool × Bool) (s1 : St) : evCallV E (Ev.lim E) (.call g vs o plain (some d) [] s1) = backO s1 plain (some d) (run E g vs o) := by
 unfold evCallV run
 dsimp only
 cases startS E g vs o with
 | none => rfl
 | some x =>
   obtain ⟨k0, s0⟩ := x
   dsimp only
   cases Ev.lim E k0 s0 <;> rfl
theorem n_call (d : Nat) {f : Operand} {args : Array Operand} {tys : Array TypeId} : evCallV E (Ev.lim E) (callN E (some d) f args tys [] s) =
   if args.size = tys.size ∧ d < s.n then callS E (some d) (s.see E.P 0 f) (s.args E.P (tys.toList.zip args.toList)) else none := by
 unfold callN
 have hd : (args.size = tys.size ∧ Option.all (fun d => decide (d < s.n)) (some d) = true) ↔ (args.size = tys.size ∧ d < s.n) := by simp
 have hr : ∀ (g : Nat) (vs : List V) (o : List (Nat → Option Ob)) (plain : Bool × Bool × Bool) (s1 : St), evCallV E (Ev.lim E) (.call g vs o plain (some d) [] s1) = backO s1 plain (some d) (run E g vs o) := by
   intro g vs o plain s1
   unfold evCallV run
   dsimp only
   cases startS E g vs o with
   | none => rfl
   | some x =>
     obtain ⟨k0, s0⟩ := x
     dsimp only
     cases Ev.lim E k0 s0 <;> rfl
 by_cases hc : args.size = tys.size ∧ d < s.n
 · rw [if_pos hc]
   cases s.see E.P 0 f with
   | fn g caps =>
     cases s.args E.P (tys.toList.zip args.toList) with
     | none => rfl
     | some r =>
       obtain ⟨vs, s1⟩ := r
       dsimp only
       rw [if_pos (hd.2 hc), callS_s]
       split
       · exact hr ..
       · cases E.orc g (vs ++ caps) with
         | some v => rfl
         | none => exact hr ..
   | _ => rfl
 · rw [if_neg hc]
   cases s.see E.P 0 f with
   | fn g caps =>
     cases s.args E.P (tys.toList.zip args.toList) with
     | none => rfl
     | some r => obtain ⟨vs, s1⟩ := r; dsimp only; rw [if_neg fun h => hc (hd.1 h)]; rfl
   | _ => rfl
noncomputable def callBS (E : Env) (d : Option Nat) (s : St) : V → Option (List V) → Option St
 | .fn g [], some vs => backO s (true, false, true) d (run E g vs [])
 | _, _ => none
theorem callBS_s (d : Option Nat) (g : Nat) (vs : List V) : callBS E d s (.fn g []) (some vs) = backO s (true, false, true) d (run E g vs []) := rfl
noncomputable def callLS (E : Env) (d : Option Nat) : V → Option (List V × St) → Option St
 | .fn g [], some (vs, s1) => backO s1 (false, setF E g d s1, false) d (run E g vs (s1.b :: s1.o))
 | _, _ => none
theorem callLS_s (d : Option Nat) (g : Nat) (vs : List V) : callLS E d (.fn g []) (some (vs, s)) = backO s (false, setF E g d s, false) d (run E g vs (s.b :: s.o)) := rfl
theorem b_call (d : Nat) {f : Operand} {args : Array Operand} {tys : Array TypeId} : evCallV E (Ev.lim E) (callB E (some d) f args tys [] s) = if args.size = tys.size ∧ d < s.n then callBS E (some d) s (s.see E.P 0 f) (s.peeks E.P (tys.toList.zip args.toList)) else none := by
 have hd : (args.size = tys.size ∧ Option.all (fun d => decide (d < s.n)) (some d) = true) ↔ (args.size = tys.size ∧ d < s.n) := by simp
 unfold callB
 by_cases hc : args.size = tys.size ∧ d < s.n
 · rw [if_pos hc]
   cases s.see E.P 0 f with
   | fn g caps =>
     cases caps with
     | cons _ _ => cases s.peeks E.P (tys.toList.zip args.toList) <;> rfl
     | nil =>
       cases s.peeks E.P (tys.toList.zip args.toList) with
       | none => rfl
       | some vs =>
         dsimp only
         rw [if_pos (hd.2 hc), callBS_s]
         exact hr_call ..
   | _ => rfl
 · rw [if_neg hc]
   cases s.see E.P 0 f with
   | fn g caps =>
     cases caps with
     | cons _ _ => cases s.peeks E.P (tys.toList.zip args.toList) <;> rfl
     | nil =>
       cases s.peeks E.P (tys.toList.zip args.toList) with
       | none => rfl
       | some vs => dsimp only; rw [if_neg fun h => hc (hd.1 h)]; rfl
   | _ => rfl
theorem w_call (d : Nat) {f : Operand} {args : Array Operand} {tys : Array TypeId} : stepOV E (Ev.lim E) { dst := some d, op := .call { callee := .value f, args := args, argTypes := tys }, type := ty, pos := pos, after := aft, guard := g } s =
   if memN d (E.H s.f).brw = true then (if args.size = tys.size ∧ d < s.n then callBS E (some d) s (s.see E.P 0 f) (s.peeks E.P (tys.toList.zip args.toList)) else none)
   else if memN d (E.H s.f).lend = true then (if args.size = tys.size ∧ d < s.n then callLS E (some d) (s.see E.P 0 f) (s.argRs E.P (tys.toList.zip args.toList)) else none)
   else if args.size = tys.size ∧ d < s.n then callS E (some d) (s.see E.P 0 f) (s.args E.P (tys.toList.zip args.toList)) else none := by
 show evCallV E _ (callOp E (some d) f args tys [] s) = _
 unfold callOp
 have hd : (args.size = tys.size ∧ Option.all (fun d => decide (d < s.n)) (some d) = true) ↔ (args.size = tys.size ∧ d < s.n) := by simp
 by_cases hb : memN d (E.H s.f).brw = true
 · rw [if_pos hb, if_pos (show inOpt (some d) (E.H s.f).brw = true from hb)]
   unfold callB
   by_cases hc : args.size = tys.size ∧ d < s.n
   · rw [if_pos hc]
     cases s.see E.P 0 f with
     | fn g caps =>
       cases caps with
       | cons _ _ => cases s.peeks E.P (tys.toList.zip args.toList) <;> rfl
       | nil =>
         cases s.peeks E.P (tys.toList.zip args.toList) with
         | none => rfl
         | some vs =>
           dsimp only
           rw [if_pos (hd.2 hc), callBS_s]
           exact hr_call ..
     | _ => rfl
   · rw [if_neg hc]
     cases s.see E.P 0 f with
     | fn g caps =>
       cases caps with
       | cons _ _ => cases s.peeks E.P (tys.toList.zip args.toList) <;> rfl
       | nil =>
         cases s.peeks E.P (tys.toList.zip args.toList) with
         | none => rfl
         | some vs => dsimp only; rw [if_neg fun h => hc (hd.1 h)]; rfl
     | _ => rfl
 rw [if_neg hb, if_neg (show ¬ inOpt (some d) (E.H s.f).brw = true from hb)]
 by_cases hl : memN d (E.H s.f).lend = true
 · rw [if_pos hl, if_pos (show inOpt (some d) (E.H s.f).lend = true from hl)]
   unfold callL
   by_cases hc : args.size = tys.size ∧ d < s.n
   · rw [if_pos hc]
     cases s.see E.P 0 f with
     | fn g caps =>
       cases caps with
       | cons _ _ => cases s.argRs E.P (tys.toList.zip args.toList) <;> rfl
       | nil =>
         cases s.argRs E.P (tys.toList.zip args.toList) with
         | none => rfl
         | some r =>
           obtain ⟨vs, s1⟩ := r
           dsimp only
           rw [if_pos (hd.2 hc), callLS_s]
           exact hr_call ..
     | _ => rfl
   · rw [if_neg hc]
     cases s.see E.P 0 f with
     | fn g caps =>
       cases caps with
       | cons _ _ => cases s.argRs E.P (tys.toList.zip args.toList) <;> rfl
       | nil =>
         cases s.argRs E.P (tys.toList.zip args.toList) with
         | none => rfl
         | some r => obtain ⟨vs, s1⟩ := r; dsimp only; rw [if_neg fun h => hc (hd.1 h)]; rfl
     | _ => rfl
 rw [if_neg hl, if_neg (show ¬ inOpt (some d) (E.H s.f).lend = true from hl)]
 exact n_call d
theorem l_call (d : Nat) {f : Operand} {args : Array Operand} {tys : Array TypeId} : lval E (Ev.lim E) { dst := some d, op := .call { callee := .value f, args := args, argTypes := tys }, type := ty, pos := pos, after := aft, guard := g } s =
   if memN d (E.H s.f).brw = true then callVal (some d) s (if args.size = tys.size ∧ d < s.n then callBS E (some d) s (s.see E.P 0 f) (s.peeks E.P (tys.toList.zip args.toList)) else none)
   else if (args.toList.all fun x => !isRef (s.see E.P 0 x)) = true then callVal (some d) s (if args.size = tys.size ∧ d < s.n then callS E (some d) (s.see E.P 0 f) (s.args E.P (tys.toList.zip args.toList)) else none) else none := by
 rw [← n_call, ← b_call]
 rfl
theorem cv_s (d : Nat) (s1 : St) (h : s1 = s.put d (s1.t d)) : callVal (some d) s (some s1) = some (s1.t d) := by
 unfold callVal
 dsimp only
 rw [if_pos h]
theorem cv_b (d : Nat) (v : V) : callVal (some d) s (some { s.put d v with b := s.b, o := s.o }) = some v := by
 rw [cv_s]
 · show some (upd s.t d v d) = some v
   simp [upd]
 · show s.put d v = s.put d (upd s.t d v d)
   simp [upd]
end
attribute [go_sem] l_call cv_b e_nil e_cons drSL_some drSL_none drSL_ite dstepS putS_s putS_n w_alloc w_builtin w_box w_load w_makeSlice w_buildSlice w_store w_call backO_s orcS_n orcS_s callS_s callBS_s callLS_s
end Go.Ev
namespace Go.Ev
open Go
def Rx.nodes (r : Rx) : Nat := 1 + (r.args.attach.map fun x => Rx.nodes x.1).sum
 termination_by SizeOf.sizeOf r
 decreasing_by exact Rx.lt _ x.2
def maxL (l : List Nat) : Nat := l.foldr max 0
def Rx.depth (r : Rx) : Nat := 1 + maxL (r.args.attach.map fun x => Rx.depth x.1)
 termination_by SizeOf.sizeOf r
 decreasing_by exact Rx.lt _ x.2
def argN (k : Int) : Int := if k = 1 ∨ k = 2 ∨ k = 3 ∨ k = 4 then 0 else if k = 8 ∨ k = 9 then 1 else if k = 5 ∨ k = 6 ∨ k = 7 then 2 else -1
def okTop (r : Rx) : Bool := (r.args.length : Int) == argN r.kind && (if r.kind = 3 then decide (r.letter.size = 1) && isWord r.letter else decide (r.letter.size = 0))
def Rx.good (r : Rx) : Bool := (r.args.attach.map fun x => Rx.good x.1).all id && okTop r
 termination_by SizeOf.sizeOf r
 decreasing_by exact Rx.lt _ x.2
def validR (r : Rx) : Bool := decide (r.nodes ≤ 16) && (decide (r.depth ≤ 6) && r.good)
def Rx.cnt (r : Rx) (d : Nat) : Nat := if d = 0 ∨ okTop r = false then 17 else min (1 + (r.args.attach.map fun x => Rx.cnt x.1 (d - 1)).sum) 17
 termination_by SizeOf.sizeOf r
 decreasing_by exact Rx.lt _ x.2
end Go.Ev
namespace Go.Ev
open Go
def argS (k : Int) : Int := if k = 5 ∨ k = 6 ∨ k = 7 then 2 else if k = 8 ∨ k = 9 then 1 else 0
def sumN (f : Rx → Nat) (l : List Rx) : Nat := (l.map f).sum
end Go.Ev
namespace Go.Ev
end Go.Ev
namespace Go.Ev
def rowOk (n : Int) (row : List Int) : Bool := ((row.length : Int) == 3) && row.all fun q => decide (0 ≤ q) && decide (q ≤ n - 1)
def validD (d : Dfa) : Bool := (decide (1 ≤ (d.accept.length : Int)) && decide ((d.accept.length : Int) ≤ 40)) && (((d.next.length : Int) == d.accept.length) && d.next.all (rowOk d.accept.length))
end Go.Ev
namespace Go.Ev
open Go
def nums (n : Int) (l : List Int) : Bool := l.all fun q => decide (0 ≤ q) && decide (q ≤ n - 1)
def rowN (n : Nat) (r : List Int) : Bool := ((r.length : Int) == n) && nums n r
def goodM (m : Mon) : Bool := !((m.maps.length : Int) == 0) && (((m.letters.length : Int) == 3) && (((m.product.length : Int) == m.maps.length) && (nums m.maps.length m.letters && m.product.all (rowN m.maps.length))))
def eqSta (a b : Sta) : Bool := (a.left.toList == b.left.toList) && ((a.right.toList == b.right.toList) && (a.maps == b.maps))
def solved (s : Sta) : Bool := decide (s.left.size = 0) && decide (s.right.size = 0)
def noM (l : List (List Int)) : Bool := l.any fun x => ((x.length : Int) == 0)
end Go.Ev
namespace Go.Ev
theorem lcp_stop (l r : ByteArray) : ∀ (n k : Nat), l.size - k ≤ n → ¬ (lcp l r k < l.size ∧ lcp l r k < r.size ∧ bt l (lcp l r k) = bt r (lcp l r k)) := by
 intro n
 induction n with
 | zero => intro k h; rw [lcp_end (by omega)]; omega
 | succ n ih =>
   intro k h
   by_cases hc : k < l.size ∧ k < r.size ∧ bt l k = bt r k
   · rw [lcp_next hc.1 hc.2.1 hc.2.2]; exact ih _ (by omega)
   · rw [lcp_end hc]; exact hc
theorem strip_strip (e : Equ) : strip (strip e) = strip e := by
 unfold strip
 dsimp only
 have h := lcp_stop e.left e.right _ 0 (Nat.le_refl _)
 generalize lcp e.left e.right 0 = K at h ⊢
 have h0 : lcp (ext e.left K) (ext e.right K) 0 = 0 := by
   refine lcp_end ?_
   rintro ⟨h1, h2, h3⟩
   rw [ext_size] at h1 h2
   have e1 := ext_bt0 e.left K (by omega)
   have e2 := ext_bt0 e.right K (by omega)
   exact h ⟨by omega, by omega, by rw [← e1, ← e2]; exact h3⟩
 rw [h0, ext_zero, ext_zero]
theorem app_nil (a b : ByteArray) : decide ((a ++ b).size = 0) = (decide (a.size = 0) && decide (b.size = 0)) := by
 rw [ByteArray.size_append]
 by_cases h1 : a.size = 0 <;> by_cases h2 : b.size = 0 <;> simp [h1, h2]
theorem bt_app_left (a b : ByteArray) (h : 0 < a.size) : bt (a ++ b) 0 = bt a 0 := by
 unfold bt
 have h1 : (0 : Int).toNat < (a ++ b).size := by rw [ByteArray.size_append]; simp; omega
 have h2 : (0 : Int).toNat < a.size := by simpa using h
 rw [dif_pos h1, dif_pos h2]
 congr 2
 exact ByteArray.getElem_append_left h2
theorem bt_app_right (a b : ByteArray) (h : a.size = 0) : a ++ b = b := by
 have : a = ByteArray.empty := by
   apply ByteArray.ext
   exact Array.eq_empty_of_size_eq_zero h
 rw [this]
 simp
end Go.Ev
namespace Go.Ev
def choice (e : Equ) (c : Int) (l : List Int) : List Int := if cntB c (e.left ++ e.right) 0 = 0 then l.take 1 else l
def xyz (k : Nat) : Int := bt ⟨#[88, 89, 90]⟩ k
def staR (e : Equ) (a b : Int) (z : List Int) : List Sta := z.map fun c => ⟨e.left, e.right, [a, b, c]⟩
def staY (e : Equ) (a : Int) (y z : List Int) : List Sta := y.flatMap fun b => staR e a b z
def staX (e : Equ) (x y z : List Int) : List Sta := x.flatMap fun a => staY e a y z
def startsOf (e : Equ) (x y z : List Int) : List Sta := if x.length * y.length * z.length > 400 then [] else staX e x y z
def chs (f : Frm) (k : Nat) : List Int := choice f.equ (xyz k) (f.allowed.getD k [])
def starts (f : Frm) : List Sta := if f.allowed.length = 3 then startsOf (strip f.equ) (chs f 0) (chs f 1) (chs f 2) else []
end Go.Ev
namespace Go.Ev
end Go.Ev
namespace Go.Ev
def cntK (f : Frm) : Nat → Nat
 | 0 => 1
 | i + 1 => cntK f i * min (chs f i).length 401
end Go.Ev
namespace Go.Ev
open Go
def IN (n : Nat) : V := .int .i64 n
def NT (t : Nat × Nat × Nat) : V := .slc false 1 [.int .i64 t.1, .int .i64 t.2.1, .int .i64 t.2.2]
structure DN where
 accept : List Bool
 next : List (Nat × Nat × Nat)
def DN.enc (d : DN) : V := .agg [.slc false 1 (d.accept.map B), .slc false 1 (d.next.map NT)]
def DN.ok (d : DN) : Prop := d.next.length = d.accept.length ∧ ∀ t ∈ d.next, t.1 < d.accept.length ∧ t.2.1 < d.accept.length ∧ t.2.2 < d.accept.length
def DN.nx (d : DN) (q : Nat) : Nat × Nat × Nat := d.next.getD q (0, 0, 0)
def cl (c : List Nat) (q : Nat) : Nat := c.getD q 0
def sameC (d : DN) (c : List Nat) (p q : Nat) : Bool := (cl c p == cl c q) && ((cl c (d.nx p).1 == cl c (d.nx q).1) && ((cl c (d.nx p).2.1 == cl c (d.nx q).2.1) && (cl c (d.nx p).2.2 == cl c (d.nx q).2.2)))
def firstS (p : Nat → Bool) (q : Nat) : Nat → Nat
 | 0 => q
 | k + 1 => if p (q - (k + 1)) = true then q - (k + 1) else firstS p q k
def lead (d : DN) (c : List Nat) (q : Nat) : Nat := firstS (fun p => sameC d c p q) q q
def refine (d : DN) (c : List Nat) : List Nat := (List.range d.accept.length).map (lead d c)
def class0 (d : DN) : List Nat := d.accept.map fun b => if b then 1 else 0
def rounds (d : DN) : Nat → List Nat → List Nat
 | 0, c => c
 | k + 1, c => rounds d k (refine d c)
attribute [go_sem] DN.enc NT IN
end Go.Ev
namespace Go.Ev
open Go
end Go.Ev
namespace Go.Ev
def C0 (b : Bool) : V := IN (if b then 1 else 0)
def LV (d : DN) (c : List Nat) (q : Nat) : V := IN (lead d c q)
end Go.Ev
namespace Go.Ev
open Go
theorem setIn_len (u : Nat) (ob : Ob) (lv : Nat) : ∀ os : List (Nat → Option Ob), (setIn u ob lv os).length = os.length := by
 intro os
 induction os with
 | nil => rfl
 | cons f os ih => unfold setIn; split <;> simp [*]
theorem obIn_len {u lv : Nat} : ∀ {os : List (Nat → Option Ob)} {ob : Ob}, obIn u lv os = some ob → lv < os.length := by
 intro os
 induction os with
 | nil => intro ob h; cases h
 | cons f os ih =>
   intro ob h
   unfold obIn at h
   split at h
   · simp; omega
   · have := ih h; simp; omega
theorem obIn_set2 (u lv u' lv' : Nat) (ob : Ob) : ∀ os : List (Nat → Option Ob), lv < os.length → obIn u' lv' (setIn u ob lv os) = if lv' = lv ∧ u' = u then some ob else obIn u' lv' os := by
 intro os
 induction os with
 | nil => intro h; simp at h
 | cons f os ih =>
   intro h
   unfold setIn
   by_cases e : lv = os.length
   · rw [if_pos e]
     unfold obIn
     by_cases e' : lv' = os.length
     · rw [if_pos e', if_pos e']
       unfold upd
       by_cases eu : u' = u
       · rw [if_pos eu, if_pos ⟨by omega, eu⟩]
       · rw [if_neg eu, if_neg fun h => eu h.2]
     · rw [if_neg e', if_neg e', if_neg fun h => e' (by omega)]
   · rw [if_neg e]
     unfold obIn
     rw [setIn_len]
     by_cases e' : lv' = os.length
     · rw [if_pos e', if_pos e', if_neg fun h => e (by omega)]
     · rw [if_neg e', if_neg e']
       exact ih (by simp at h; omega)
theorem setIn_cons (u lv : Nat) (a : Ob) (f : Nat → Option Ob) (os : List (Nat → Option Ob)) : setIn u a lv (f :: os) = if lv = os.length then upd f u (some a) :: os else f :: setIn u a lv os := rfl
theorem setIn_setIn (u lv : Nat) (a b : Ob) : ∀ os : List (Nat → Option Ob), setIn u b lv (setIn u a lv os) = setIn u b lv os := by
 intro os
 induction os with
 | nil => rfl
 | cons f os ih =>
   rw [setIn_cons, setIn_cons]
   by_cases e : lv = os.length
   · rw [if_pos e, if_pos e, setIn_cons, if_pos e]
     congr 1
     funext x
     unfold upd
     split <;> rfl
   · rw [if_neg e, if_neg e, setIn_cons, setIn_len, if_neg e, ih]
def mB (k i : Nat) : V := .bool ((((k + i : Nat) : Int) % 3) == 0)
def marksB (k n : Nat) : List V := (List.range n).map (mB k)
def mI (k i : Nat) : V := .int .i64 ((k + i : Nat) : Int)
def marksI (k n : Nat) : List V := (List.range n).map (mI k)
def markP (m : Nat → V) (l : List V) (i : Nat) : List V := (List.range i).map m ++ l.drop i
def rowR (lv id : Nat) (n : Nat) : V := if n = 0 then .slc false 1 [] else .aref lv id n
def KK : Nat := 4294967296 ^ 8
def rid (u i : Nat) : Nat := u + (i + 1) * KK
def refsR (lv u : Nat) (ns : List Nat) : List V := (List.range ns.length).map fun i => rowR lv (rid u i) (ns.getD i 0)
def markRows (lv u : Nat) : List Nat → Nat → Nat → List (Nat → Option Ob) → List (Nat → Option Ob)
 | [], _, _, os => os
 | n :: ns, i, k, os => markRows lv u ns (i + 1) (k + n) (if n = 0 then os else setIn (rid u i) (.dir 1 (marksI k n)) lv os)
def HeldR (lv u : Nat) (os : List (Nat → Option Ob)) : List Nat → Nat → Nat → Prop
 | [], _, _ => True
 | n :: ns, i, k => (n ≠ 0 → obIn (rid u i) lv os = some (.dir 1 (marksI k n))) ∧ HeldR lv u os ns (i + 1) (k + n)
theorem HeldR.congr {lv u : Nat} {os os' : List (Nat → Option Ob)} : ∀ {ns : List Nat} {i k : Nat}, HeldR lv u os ns i k → (∀ j, i ≤ j → obIn (rid u j) lv os' = obIn (rid u j) lv os) → HeldR lv u os' ns i k := by
 intro ns
 induction ns with
 | nil => intro i k _ _; trivial
 | cons n ns ih =>
   intro i k h he
   exact ⟨fun hn => (he i (Nat.le_refl _)).trans (h.1 hn), ih h.2 fun j hj => he j (by omega)⟩
end Go.Ev
