/- A draw's cursor: a variable of an outer frame. No statement of the seat is proved here. Values of variables, what a string says of them, and that a solution of an equation passes through one of its moves. No statement of the seat is proved here. A solution of an equation passes through one of its moves: bytes as lists. No statement of the seat is proved here. A solution of an equation passes through one of its moves. No statement of the seat is proved here. An argument that reads as data, as a tree. -/
import Derived.OpenShut
import Derived.ProofKit
import Derived.ChangeOld
import Derived.DataReads
import Derived.Test.YtkffkacjmhmegaaEvN
import Derived.Test.YtkffkacjmhmegaaEvM
set_option linter.unusedVariables false
set_option linter.unusedSimpArgs false
namespace Go.Ev
open Go
def U8 (n : Int) : V := .int .u8 n
def cur (l : List Int) (i : Nat) (h : Int) : Ob := .box [.slc false 1 (l.map U8), .int .i64 (i : Int), .int .i64 h]
def Cur (l : List Int) (t lv : Nat) (o : List (Nat → Option Ob)) : Prop := ∃ i h, i ≤ l.length ∧ obIn t lv o = some (cur l i h)
def and64 (a b : Int) : Int := IntKind.i64.wrap ((BitVec.ofInt IntKind.i64.bits a &&& BitVec.ofInt IntKind.i64.bits b).toNat : Int)
def xor64 (a b : Int) : Int := IntKind.i64.wrap ((BitVec.ofInt IntKind.i64.bits a ^^^ BitVec.ofInt IntKind.i64.bits b).toNat : Int)
theorem arith_and64 (a b : Int) : arith .and .i64 a b = some (.int .i64 (and64 a b)) := rfl
theorem arith_xor64 (a b : Int) : arith .xor .i64 a b = some (.int .i64 (xor64 a b)) := rfl
attribute [go_sem high] arith_and64 arith_xor64
theorem and255 (a : Int) : 0 ≤ and64 a 255 ∧ and64 a 255 ≤ 255 := by
 have h : (BitVec.ofInt IntKind.i64.bits a &&& BitVec.ofInt IntKind.i64.bits 255).toNat ≤ 255 := by
   rw [BitVec.toNat_and]
   exact Nat.and_le_right
 unfold and64
 generalize (BitVec.ofInt IntKind.i64.bits a &&& BitVec.ofInt IntKind.i64.bits 255).toNat = n at h
 rw [wrap_in (by omega) (by omega)]
 omega
def nextH (h : Int) : Int := IntKind.i64.wrap (IntKind.i64.wrap (h * 6364136223846793005) + 1442695040888963407)
def rawX (h : Int) : Int := and64 (xor64 (h.fdiv (2 ^ min 33 64)) (h.fdiv (2 ^ min 45 64))) 255
theorem rem_below {x n : Int} (h : 0 ≤ x) (hn : 0 < n) : 0 ≤ x.tmod n ∧ x.tmod n < n := by
 rw [Int.tmod_eq_emod_of_nonneg h]
 exact ⟨Int.emod_nonneg _ (by omega), Int.emod_lt_of_pos _ hn⟩
theorem getD_U8 {l : List Int} {i : Nat} (d : V) (h : i < l.length) : (l.map U8).getD i d = .int .u8 (l.getD i 0) := by
 simp only [List.getD_eq_getElem?_getD, List.getElem?_map, List.getElem?_eq_getElem h]; rfl
abbrev Rs := Option (V × List (Nat → Option Ob))
def Draws (E : Env) (f : Nat) (args : List V) (l : List Int) (t lv : Nat) (P : V → Prop) : Prop := ∀ o, Cur l t lv o → ∃ v ob, P v ∧ Cur l t lv (setIn t ob lv o) ∧ run E f (.ptr lv t 0 :: args) o = some (v, setIn t ob lv o)
theorem Draws.mk {E : Env} {f : Nat} {args : List V} {l : List Int} {t lv : Nat} {P : V → Prop} (h : ∀ o, Cur l t lv o → lv < o.length → ∀ Q : Rs → Prop, (∀ v ob, P v → Cur l t lv (setIn t ob lv o) → Q (some (v, setIn t ob lv o))) → Q (run E f (.ptr lv t 0 :: args) o)) : Draws E f args l t lv P := by
 intro o ho
 have hlt : lv < o.length := by obtain ⟨_, _, _, h⟩ := ho; exact obIn_len h
 exact h o ho hlt (fun r => ∃ v ob, P v ∧ Cur l t lv (setIn t ob lv o) ∧ r = some (v, setIn t ob lv o)) fun v ob h1 h2 => ⟨v, ob, h1, h2, rfl⟩
theorem Cur.lt {l : List Int} {t lv : Nat} {o : List (Nat → Option Ob)} (h : Cur l t lv o) : lv < o.length := by obtain ⟨_, _, _, h⟩ := h; exact obIn_len h
theorem Cur.push {l : List Int} {t lv : Nat} {o : List (Nat → Option Ob)} (h : Cur l t lv o) (b : Nat → Option Ob) : Cur l t lv (b :: o) := by
 have hlt := h.lt
 obtain ⟨i, x, hi, ho⟩ := h
 exact ⟨i, x, hi, by show (if lv = o.length then _ else obIn t lv o) = _; rw [if_neg (by omega)]; exact ho⟩
theorem setIn_push (t lv : Nat) (ob : Ob) (b : Nat → Option Ob) {o : List (Nat → Option Ob)} (h : lv < o.length) : setIn t ob lv (b :: o) = b :: setIn t ob lv o := by rw [setIn_cons, if_neg (by omega)]
theorem Cur.pop {l : List Int} {t lv : Nat} {b : Nat → Option Ob} {o : List (Nat → Option Ob)} (h : Cur l t lv (b :: o)) (hlt : lv < o.length) : Cur l t lv o := by
 obtain ⟨i, x, hi, ho⟩ := h
 have : (if lv = o.length then b t else obIn t lv o) = _ := ho
 rw [if_neg (by omega)] at this
 exact ⟨i, x, hi, this⟩
theorem Draws.at0 {E : Env} {f : Nat} {args : List V} {l : List Int} {t lv : Nat} {P : V → Prop} (h : Draws E f args l t lv P) {o : List (Nat → Option Ob)} (hc : Cur l t lv o) (b : Nat → Option Ob) :
   ∃ v ob, P v ∧ Cur l t lv (setIn t ob lv o) ∧ run E f (.ptr lv t 0 :: args) (b :: o) = some (v, b :: setIn t ob lv o) := by
 obtain ⟨v, ob, h1, h2, h3⟩ := h _ (hc.push b)
 rw [setIn_push _ _ _ _ hc.lt] at h2 h3
 exact ⟨v, ob, h1, h2.pop (by rw [setIn_len]; exact hc.lt), h3⟩
theorem Draws.at {E : Env} {f : Nat} {args : List V} {l : List Int} {t lv : Nat} {P : V → Prop} (h : Draws E f args l t lv P) {o : List (Nat → Option Ob)} {ob : Ob} (hc : Cur l t lv (setIn t ob lv o)) (b : Nat → Option Ob) :
   ∃ v ob', P v ∧ Cur l t lv (setIn t ob' lv o) ∧ run E f (.ptr lv t 0 :: args) (b :: setIn t ob lv o) = some (v, b :: setIn t ob' lv o) := by
 obtain ⟨v, ob', h1, h2, h3⟩ := h.at0 hc b
 rw [setIn_setIn] at h2 h3
 exact ⟨v, ob', h1, h2, h3⟩
theorem iter_ex {σ : Type} {E : Env} {c : Code} {k : List It} (I : σ → Prop) (S : σ → St) (Q : Rs → Prop) (μ : σ → Nat) (h : ∀ x, I x → (∀ y, I y → μ y < μ x → Q (iter E c k (S y))) → Q (lim E (.code c :: .lp c :: k) (S x))) (x : σ) (hx : I x) : Q (iter E c k (S x)) := by
 suffices ∀ n x, I x → μ x ≤ n → Q (iter E c k (S x)) from this _ x hx (Nat.le_refl _)
 intro n
 induction n with
 | zero => intro x hI hx; exact h x hI fun y hy hlt => absurd hlt (by omega)
 | succ n ih => intro x hI hx; exact h x hI fun y hy hlt => ih y hy (by omega)
theorem ifQ {α : Type} {Q : α → Prop} {c : Prop} [Decidable c] {a b : α} (h : c) (hq : Q a) : Q (if c then a else b) := by rw [if_pos h]; exact hq
theorem getD_str {ws : List ByteArray} {i : Nat} (h : i < ws.length) (d : V) : (ws.map V.str).getD i d = .str ws[i] := by
 simp [List.getD_eq_getElem?_getD, List.getElem?_eq_getElem h]
end Go.Ev
namespace Go.Ev
open Go
def Vals.of (v : Vals) (c : Int) : ByteArray := if c = 88 then v.x else if c = 89 then v.y else if c = 90 then v.z else ⟨#[]⟩
def Vals.wit (v : Vals) (c : Int) (s : ByteArray) : Vals := if c = 88 then { v with x := s } else if c = 89 then { v with y := s } else if c = 90 then { v with z := s } else v
def Vals.le (v : Vals) (n : Nat) : Prop := v.x.size ≤ n ∧ v.y.size ≤ n ∧ v.z.size ≤ n
theorem Vals.of_le {v : Vals} {n : Nat} (h : v.le n) (c : Int) : (v.of c).size ≤ n := by
 unfold Vals.of
 obtain ⟨h1, h2, h3⟩ := h
 split
 · exact h1
 · split
   · exact h2
   · split
     · exact h3
     · exact Nat.zero_le _
theorem Vals.wit_le {v : Vals} {n : Nat} {s : ByteArray} (h : v.le n) (hs : s.size ≤ n) (c : Int) : (v.wit c s).le n := by
 unfold Vals.wit
 obtain ⟨h1, h2, h3⟩ := h
 split
 · exact ⟨hs, h2, h3⟩
 · split
   · exact ⟨h1, hs, h3⟩
   · split
     · exact ⟨h1, h2, hs⟩
     · exact ⟨h1, h2, h3⟩
def appF (s : ByteArray) (v : Vals) (i : Nat) : ByteArray := if isVar (bt s i) = true then v.of (bt s i) else one s i
def appB (s : ByteArray) (v : Vals) : ByteArray := repl (appF s v) s 0 ⟨#[]⟩
def termC (c : Int) : Bool := decide (0 ≤ ltr c) || isVar c
def isTerm (s : ByteArray) : Bool := allB termC s 0 && decide ((s.size : Int) ≤ 12)
end Go.Ev
namespace Go.Ev
def begB (s t : ByteArray) : Bool := decide (t.size ≤ s.size) && decide (s.extract 0 t.size = t)
def undo (v : Vals) (m : Mov) : Vals × Bool :=
 if m.by_.size = 0 then (v, decide ((v.of m.name).size = 0))
 else if begB (v.of m.name) (appB (m.by_.extract 0 1) v) = true then (v.wit m.name ((v.of m.name).extract (appB (m.by_.extract 0 1) v).size (v.of m.name).size), true) else (v, false)
def rev (v : Vals) (m : Mov) : Vals :=
 if m.by_.size = 0 then v.wit m.name ⟨#[]⟩
 else v.wit m.name ((if isVar (bt m.by_ 0) = true then v.of (bt m.by_ 0) else m.by_.extract 0 1) ++ v.of m.name)
end Go.Ev
namespace Go.Ev
def C1 (e : Equ) : List V := [.int .i64 1, .str e.left, .str e.right, .int .i64 0, .str ⟨#[]⟩, .slc false 3 [], .slc false 1 [], .int .i64 0]
def P1 (e : Equ) : V := .agg [.slc false 8 [.agg (C1 e)]]
def goodE (e : Equ) : Bool := isTerm e.left && isTerm e.right
end Go.Ev
namespace Go.Ev
def Solves (e : Equ) (v : Vals) : Prop := v.le 5 ∧ appB e.left v = appB e.right v
end Go.Ev
namespace Go.Ev
theorem Vals.ice (v : Vals) : v.enc.ice = v.enc := by unfold Vals.enc; rw [ice_agg]; simp [V.ice]
theorem ice_vals (us : List Vals) : (us.map Vals.enc).map V.ice = us.map Vals.enc := by
 rw [List.map_map]
 exact List.map_congr_left fun u _ => Vals.ice u
end Go.Ev
namespace Go.Ev
open Go
def LL (s : ByteArray) : List Int := s.data.toList.map fun b => (b.toNat : Int)
theorem LL_len (s : ByteArray) : (LL s).length = s.size := by unfold LL; simp
theorem LL_get (s : ByteArray) {i : Nat} (h : i < s.size) : (LL s)[i]? = some (bt s i) := by
 unfold LL bt
 have h' : (i : Int).toNat < s.size := by simpa using h
 rw [dif_pos h']
 simp only [List.getElem?_map, Array.getElem?_toList, Int.toNat_natCast]
 rw [Array.getElem?_eq_getElem (by simpa using h)]
 rfl
theorem LL_app (a b : ByteArray) : LL (a ++ b) = LL a ++ LL b := by unfold LL; rw [ByteArray.data_append]; simp
theorem LL_inj {a b : ByteArray} (h : LL a = LL b) : a = b := by
 have hl : a.size = b.size := by rw [← LL_len, ← LL_len, h]
 have : a.data = b.data := by
   apply Array.ext
   · simpa using hl
   · intro i h1 h2
     have e := congrArg (fun l => l[i]?) h
     unfold LL at e
     simp only [List.getElem?_map, Array.getElem?_toList, Array.getElem?_eq_getElem h1, Array.getElem?_eq_getElem h2, Option.map_some, Option.some.injEq] at e
     have e2 : a.data[i].toNat = b.data[i].toNat := by omega
     exact UInt8.toNat_inj.1 e2
 cases a; cases b; simpa using this
theorem LL_nil {s : ByteArray} : LL s = [] ↔ s.size = 0 := by rw [← LL_len, List.length_eq_zero_iff]
theorem LL_ext (s : ByteArray) (a b : Nat) : LL (s.extract a b) = ((LL s).take b).drop a := by
 unfold LL
 rw [ByteArray.data_extract, Array.toList_extract, List.extract_eq_take_drop, List.map_take, List.map_drop, List.drop_take]
theorem LL_one (s : ByteArray) {i : Nat} (h : i < s.size) : LL (one s i) = [bt s i] := by
 unfold one
 rw [LL_ext]
 have h1 : i < (LL s).length := by rw [LL_len]; exact h
 have h2 := LL_get s h
 rw [List.getElem?_eq_getElem h1] at h2
 rw [List.drop_take, Nat.add_sub_cancel_left, List.drop_eq_getElem_cons h1, Option.some.inj h2]
 rfl
theorem repl_LL (f : Nat → ByteArray) (s : ByteArray) (g : Int → List Int) (B : Nat) (hf : ∀ i, i < s.size → LL (f i) = g (bt s i)) (hB : ∀ i, i < s.size → (f i).size ≤ B) : ∀ (n i : Nat) (out : ByteArray), s.size - i = n → out.size + n * B ≤ 1048576 → LL (repl f s i out) = LL out ++ ((LL s).drop i).flatMap g := by
 intro n
 induction n with
 | zero =>
   intro i out hn _
   rw [repl_end (by omega), List.drop_of_length_le (by rw [LL_len]; omega)]
   simp
 | succ n ih =>
   intro i out hn ho
   have hi : i < s.size := by omega
   have hb := hB i hi
   have e : (n + 1) * B = n * B + B := by rw [Nat.add_mul, Nat.one_mul]
   have h1 : i < (LL s).length := by rw [LL_len]; exact hi
   have h2 := LL_get s hi
   rw [List.getElem?_eq_getElem h1] at h2
   have hz : (out ++ f i).size = out.size + (f i).size := ByteArray.size_append
   rw [repl_next hi, if_neg (by omega), ih (i + 1) _ (by omega) (by omega), LL_app, hf i hi, List.drop_eq_getElem_cons h1, Option.some.inj h2, List.flatMap_cons, List.append_assoc]
def gA (v : Vals) (c : Int) : List Int := if isVar c = true then LL (v.of c) else [c]
def gR (name : Int) (b : List Int) (c : Int) : List Int := if c = name then b else [c]
theorem appB_LL (s : ByteArray) (v : Vals) (hv : v.le 5) (hs : s.size ≤ 1000) : LL (appB s v) = (LL s).flatMap (gA v) := by
 have := repl_LL (appF s v) s (gA v) 5 (fun i hi => by
   unfold appF gA
   split
   · rfl
   · exact LL_one s hi) (fun i hi => by
   unfold appF
   split
   · exact Vals.of_le hv _
   · have := one_size s i hi; omega) s.size 0 ⟨#[]⟩ (by omega) (by show 0 + _ ≤ _; omega)
 exact this
theorem repV_LL (s : ByteArray) (c : Int) (b : ByteArray) (hb : b.size ≤ 2) (hs : s.size ≤ 1000) : LL (repV s c b) = (LL s).flatMap (gR c (LL b)) := by
 have := repl_LL (fun i => if bt s i = c then b else one s i) s (gR c (LL b)) 2 (fun i hi => by
   unfold gR
   split
   · rfl
   · exact LL_one s hi) (fun i hi => by
   split
   · exact hb
   · have := one_size s i hi; omega) s.size 0 ⟨#[]⟩ (by omega) (by show 0 + _ ≤ _; omega)
 exact this
theorem lcp_spec (l r : ByteArray) : ∀ (n k : Nat), l.size - k ≤ n → k ≤ lcp l r k ∧ (∀ i, k ≤ i → i < lcp l r k → i < l.size ∧ i < r.size ∧ bt l i = bt r i) ∧ ¬ (lcp l r k < l.size ∧ lcp l r k < r.size ∧ bt l (lcp l r k) = bt r (lcp l r k)) := by
 intro n
 induction n with
 | zero =>
   intro k hk
   have h : ¬ (k < l.size ∧ k < r.size ∧ bt l k = bt r k) := fun h => by have := h.1; omega
   rw [lcp_end h]
   exact ⟨Nat.le_refl _, fun i h1 h2 => absurd h2 (by omega), h⟩
 | succ n ih =>
   intro k hk
   by_cases h : k < l.size ∧ k < r.size ∧ bt l k = bt r k
   · rw [lcp_next h.1 h.2.1 h.2.2]
     obtain ⟨h1, h2, h3⟩ := ih (k + 1) (by have := h.1; omega)
     refine ⟨by omega, fun i hi hj => ?_, h3⟩
     rcases Nat.eq_or_lt_of_le hi with rfl | hi
     · exact h
     · exact h2 i hi hj
   · rw [lcp_end h]
     exact ⟨Nat.le_refl _, fun i h1 h2 => absurd h2 (by omega), h⟩
theorem strip_parts (e : Equ) : ∃ p, LL e.left = p ++ LL (strip e).left ∧ LL e.right = p ++ LL (strip e).right ∧ ∀ c d s t, LL (strip e).left = c :: s → LL (strip e).right = d :: t → c ≠ d := by
 obtain ⟨_, h2, h3⟩ := lcp_spec e.left e.right e.left.size 0 (by omega)
 unfold strip
 dsimp only
 generalize lcp e.left e.right 0 = k at h2 h3
 have kl : k ≤ e.left.size := by
   rcases Nat.eq_zero_or_pos k with h | h
   · omega
   · have := (h2 (k - 1) (Nat.zero_le _) (by omega)).1; omega
 have kr : k ≤ e.right.size := by
   rcases Nat.eq_zero_or_pos k with h | h
   · omega
   · have := (h2 (k - 1) (Nat.zero_le _) (by omega)).2.1; omega
 have el : ∀ s : ByteArray, LL (ext s k) = (LL s).drop k := fun s => by
   unfold ext
   rw [LL_ext, List.take_of_length_le (by rw [LL_len]; exact Nat.le_refl _)]
 have et : (LL e.left).take k = (LL e.right).take k := by
   refine List.ext_getElem? fun i => ?_
   rw [List.getElem?_take, List.getElem?_take]
   by_cases hi : i < k
   · obtain ⟨a1, a2, a3⟩ := h2 i (Nat.zero_le _) hi
     rw [if_pos hi, if_pos hi, LL_get _ a1, LL_get _ a2, a3]
   · rw [if_neg hi, if_neg hi]
 refine ⟨(LL e.left).take k, by rw [el, List.take_append_drop], by rw [el, et, List.take_append_drop], fun c d s t h4 h5 => ?_⟩
 rw [el] at h4 h5
 rintro rfl
 have g4 : (LL e.left)[k]? = some c := by
   have := congrArg (fun l => l[0]?) h4
   simpa using this
 have g5 : (LL e.right)[k]? = some c := by
   have := congrArg (fun l => l[0]?) h5
   simpa using this
 have k4 : k < e.left.size := by
   have := (List.getElem?_eq_some_iff.1 g4).1
   rwa [LL_len] at this
 have k5 : k < e.right.size := by
   have := (List.getElem?_eq_some_iff.1 g5).1
   rwa [LL_len] at this
 rw [LL_get _ k4] at g4
 rw [LL_get _ k5] at g5
 exact h3 ⟨k4, k5, by rw [Option.some.inj g4, Option.some.inj g5]⟩
theorem allB_iff (p : Int → Bool) (s : ByteArray) : ∀ (n i : Nat), s.size - i ≤ n → (allB p s i = true ↔ ∀ j, i ≤ j → j < s.size → p (bt s j) = true) := by
 intro n
 induction n with
 | zero =>
   intro i hi
   rw [allB_end _ _ (by omega)]
   exact ⟨fun _ j h1 h2 => absurd h2 (by omega), fun _ => rfl⟩
 | succ n ih =>
   intro i hi
   by_cases h : i < s.size
   · rw [allB_next _ _ h, Bool.and_eq_true, ih (i + 1) (by omega)]
     constructor
     · rintro ⟨h1, h2⟩ j hj hj2
       rcases Nat.eq_or_lt_of_le hj with rfl | hj
       · exact h1
       · exact h2 j hj hj2
     · intro h1
       exact ⟨h1 i (Nat.le_refl _) h, fun j h2 h3 => h1 j (by omega) h3⟩
   · rw [allB_end _ _ h]
     exact ⟨fun _ j h1 h2 => absurd h2 (by omega), fun _ => rfl⟩
theorem allB_LL (p : Int → Bool) (s : ByteArray) : allB p s 0 = true ↔ ∀ c ∈ LL s, p c = true := by
 rw [allB_iff p s s.size 0 (by omega)]
 constructor
 · intro h c hc
   obtain ⟨i, hi, e⟩ := List.getElem_of_mem hc
   have hi' : i < s.size := by rwa [LL_len] at hi
   have := LL_get s hi'
   rw [List.getElem?_eq_getElem hi, e] at this
   rw [Option.some.inj this]
   exact h i (Nat.zero_le _) hi'
 · intro h j _ hj
   exact h _ (List.mem_of_getElem? (LL_get s hj))
theorem bt0 {s : ByteArray} {c : Int} {t : List Int} (h : LL s = c :: t) : bt s 0 = c := by
 have hl : 0 < s.size := by rw [← LL_len, h]; simp
 have := LL_get s hl
 rw [h] at this
 exact (Option.some.inj this).symm
theorem gA_nil {v : Vals} {c : Int} (h : gA v c = []) : isVar c = true ∧ LL (v.of c) = [] := by
 unfold gA at h
 split at h
 · rename_i hv; exact ⟨hv, h⟩
 · cases h
theorem flat_nil {v : Vals} {l : List Int} (h : l.flatMap (gA v) = []) : ∀ c ∈ l, gA v c = [] := by
 intro c hc
 rw [List.flatMap_eq_nil_iff] at h
 exact h c hc
theorem rests {e : Equ} {v : Vals} (hs : Solves e v) (hl : e.left.size ≤ 1000) (hr : e.right.size ≤ 1000) : (LL (strip e).left).flatMap (gA v) = (LL (strip e).right).flatMap (gA v) := by
 obtain ⟨p, h1, h2, _⟩ := strip_parts e
 have h3 := congrArg LL hs.2
 rw [appB_LL _ v hs.1 hl, appB_LL _ v hs.1 hr, h1, h2, List.flatMap_append, List.flatMap_append] at h3
 exact List.append_cancel_left h3
theorem no_clash {e : Equ} {v : Vals} (hs : Solves e v) (hl : e.left.size ≤ 1000) (hr : e.right.size ≤ 1000) : clash (strip e) = false := by
 have hA := rests hs hl hr
 obtain ⟨p, h1, h2, h3⟩ := strip_parts e
 unfold clash
 have one : ∀ {a b : ByteArray}, a.size = 0 → (LL a).flatMap (gA v) = (LL b).flatMap (gA v) → allB isVar (a ++ b) 0 = true ∧ allB isVar (b ++ a) 0 = true := by
   intro a b ha hab
   have e1 : LL a = [] := LL_nil.2 ha
   rw [e1] at hab
   have h4 := flat_nil hab.symm
   rw [allB_LL, allB_LL, LL_app, LL_app, e1, List.nil_append, List.append_nil]
   exact ⟨fun c hc => (gA_nil (h4 c hc)).1, fun c hc => (gA_nil (h4 c hc)).1⟩
 split
 · rename_i h
   rcases h with h | h
   · rw [(one h hA).1]; rfl
   · rw [(one h hA.symm).2]; rfl
 · rename_i h
   have hl0 : LL (strip e).left ≠ [] := fun e1 => h (.inl (LL_nil.1 e1))
   have hr0 : LL (strip e).right ≠ [] := fun e1 => h (.inr (LL_nil.1 e1))
   obtain ⟨c, s, hc⟩ := List.exists_cons_of_ne_nil hl0
   obtain ⟨d, t, hd⟩ := List.exists_cons_of_ne_nil hr0
   have hcd := h3 c d s t hc hd
   rw [bt0 hc, bt0 hd]
   cases h5 : isVar c <;> cases h6 : isVar d <;> try rfl
   exfalso
   rw [hc, hd, List.flatMap_cons, List.flatMap_cons] at hA
   unfold gA at hA
   rw [if_neg (by rw [h5]; decide), if_neg (by rw [h6]; decide)] at hA
   exact hcd (List.cons.inj hA).1
theorem gR_gA (v v' : Vals) (name : Int) (b : List Int) (h1 : gA v name = b.flatMap (gA v')) (h2 : ∀ c, c ≠ name → gA v' c = gA v c) (l : List Int) : (l.flatMap (gR name b)).flatMap (gA v') = l.flatMap (gA v) := by
 rw [List.flatMap_assoc]
 refine congrArg List.flatten (List.map_congr_left fun c _ => ?_)
 unfold gR
 split
 · rename_i e; subst e; exact h1.symm
 · rename_i e; simpa using h2 c e
def Fits (e : Equ) (v : Vals) (m : Mov) : Prop := (undo v m).2 = true ∧ appB (strip ⟨repV e.left m.name m.by_, repV e.right m.name m.by_⟩).left (undo v m).1 = appB (strip ⟨repV e.left m.name m.by_, repV e.right m.name m.by_⟩).right (undo v m).1 ∧ rev (undo v m).1 m = v
theorem strip_same {e : Equ} {v : Vals} (hv : v.le 5) (hl : e.left.size ≤ 1000) (hr : e.right.size ≤ 1000) (h : (LL e.left).flatMap (gA v) = (LL e.right).flatMap (gA v)) : appB (strip e).left v = appB (strip e).right v := by
 obtain ⟨p, h1, h2, _⟩ := strip_parts e
 obtain ⟨s1, s2⟩ := strip_le e
 refine LL_inj ?_
 rw [appB_LL _ v hv (by omega), appB_LL _ v hv (by omega)]
 rw [h1, h2, List.flatMap_append, List.flatMap_append] at h
 exact List.append_cancel_left h
theorem moved_same {e : Equ} {v v' : Vals} (hs : Solves e v) (hv : v'.le 5) (hl : e.left.size ≤ 100) (hr : e.right.size ≤ 100) (name : Int) (b : ByteArray) (hb : b.size ≤ 2) (h1 : gA v name = (LL b).flatMap (gA v')) (h2 : ∀ c, c ≠ name → gA v' c = gA v c) :
   appB (strip ⟨repV e.left name b, repV e.right name b⟩).left v' = appB (strip ⟨repV e.left name b, repV e.right name b⟩).right v' := by
 have sz : ∀ s : ByteArray, s.size ≤ 100 → (repV s name b).size ≤ 1000 := fun s h => by
   rw [← LL_len, repV_LL s name b hb (by omega)]
   have : ∀ l : List Int, (l.flatMap (gR name (LL b))).length ≤ l.length * 2 := by
     intro l
     induction l with
     | nil => simp
     | cons c l ih =>
       rw [List.flatMap_cons, List.length_append, List.length_cons, Nat.add_mul, Nat.one_mul]
       have : (gR name (LL b) c).length ≤ 2 := by
         unfold gR; split
         · rw [LL_len]; exact hb
         · simp
       omega
   have := this (LL s)
   rw [LL_len] at this
   omega
 refine strip_same hv (sz _ hl) (sz _ hr) ?_
 have h3 := congrArg LL hs.2
 rw [appB_LL _ v hs.1 (by omega), appB_LL _ v hs.1 (by omega)] at h3
 show (LL (repV e.left name b)).flatMap (gA v') = (LL (repV e.right name b)).flatMap (gA v')
 rw [repV_LL _ _ _ hb (by omega), repV_LL _ _ _ hb (by omega), gR_gA v v' name (LL b) h1 h2, gR_gA v v' name (LL b) h1 h2]
 exact h3
end Go.Ev
namespace Go.Ev
open Go
theorem isVar_cases {c : Int} (h : isVar c = true) : c = 88 ∨ c = 89 ∨ c = 90 := by
 unfold isVar at h
 rw [Bool.and_eq_true, decide_eq_true_eq, decide_eq_true_eq] at h
 omega
theorem wit_of (v : Vals) {c : Int} (h : isVar c = true) : v.wit c (v.of c) = v := by
 rcases isVar_cases h with rfl | rfl | rfl <;> rfl
theorem of_wit (v : Vals) {c : Int} (h : isVar c = true) (s : ByteArray) : (v.wit c s).of c = s := by
 rcases isVar_cases h with rfl | rfl | rfl <;> rfl
theorem wit_wit (v : Vals) {c : Int} (h : isVar c = true) (s t : ByteArray) : (v.wit c s).wit c t = v.wit c t := by
 rcases isVar_cases h with rfl | rfl | rfl <;> rfl
theorem of_wit_ne (v : Vals) {c d : Int} (h : isVar c = true) (hd : d ≠ c) (s : ByteArray) : (v.wit c s).of d = v.of d := by
 unfold Vals.of
 rcases isVar_cases h with rfl | rfl | rfl
 · by_cases h1 : d = 89
   · subst h1; rfl
   · by_cases h2 : d = 90
     · subst h2; rfl
     · simp [hd, h1, h2]
 · by_cases h1 : d = 88
   · subst h1; rfl
   · by_cases h2 : d = 90
     · subst h2; rfl
     · simp [hd, h1, h2]
 · by_cases h1 : d = 88
   · subst h1; rfl
   · by_cases h2 : d = 89
     · subst h2; rfl
     · simp [hd, h1, h2]
theorem gA_wit_ne (v : Vals) {c d : Int} (h : isVar c = true) (hd : d ≠ c) (s : ByteArray) : gA (v.wit c s) d = gA v d := by
 unfold gA; rw [of_wit_ne v h hd]
theorem LL_mem {s : ByteArray} {c : Int} (h : c ∈ LL s) : 0 ≤ c ∧ c < 256 := by
 unfold LL at h
 obtain ⟨b, _, rfl⟩ := List.mem_map.1 h
 have := b.toNat_lt
 omega
theorem LL_pair {a b : Int} (ha : 0 ≤ a ∧ a < 256) (hb : 0 ≤ b ∧ b < 256) : LL (pair a b) = [a, b] := by
 obtain ⟨a, rfl⟩ : ∃ n : Nat, a = n := ⟨a.toNat, by omega⟩
 obtain ⟨b, rfl⟩ : ∃ n : Nat, b = n := ⟨b.toNat, by omega⟩
 show [(((UInt8.ofNat (a : Int).toNat).toNat : Nat) : Int), (((UInt8.ofNat (b : Int).toNat).toNat : Nat) : Int)] = _
 simp only [Int.toNat_natCast, UInt8.toNat_ofNat']
 rw [Nat.mod_eq_of_lt (by omega), Nat.mod_eq_of_lt (by omega)]
theorem fit_empty {e : Equ} {v : Vals} (hs : Solves e v) (hl : e.left.size ≤ 100) (hr : e.right.size ≤ 100) {c : Int} (hc : isVar c = true) (h : LL (v.of c) = []) : Fits e v ⟨c, ⟨#[]⟩⟩ := by
 have hz : (v.of c).size = 0 := LL_nil.1 h
 have e0 : (ByteArray.mk #[]).size = 0 := rfl
 have eu : undo v ⟨c, ⟨#[]⟩⟩ = (v, true) := by
   unfold undo
   rw [if_pos e0, decide_eq_true hz]
 unfold Fits
 rw [eu]
 refine ⟨rfl, moved_same hs hs.1 hl hr c ⟨#[]⟩ (by decide) ?_ (fun _ _ => rfl), ?_⟩
 · unfold gA
   rw [if_pos hc, h]
   rfl
 · show rev v ⟨c, ⟨#[]⟩⟩ = v
   unfold rev
   rw [if_pos e0]
   have : v.of c = ⟨#[]⟩ := LL_inj (by rw [h]; rfl)
   show v.wit c ⟨#[]⟩ = v
   rw [← this]
   exact wit_of v hc
theorem fit_pair {e : Equ} {v : Vals} (hs : Solves e v) (hl : e.left.size ≤ 100) (hr : e.right.size ≤ 100) {c d : Int} (hc : isVar c = true) (hcd : d ≠ c) (hd : 0 ≤ d ∧ d < 256) {r : List Int} (h : LL (v.of c) = gA v d ++ r) : Fits e v ⟨c, pair d c⟩ := by
 have hcb : 0 ≤ c ∧ c < 256 := by rcases isVar_cases hc with rfl | rfl | rfl <;> omega
 have hp := LL_pair hd hcb
 have e0 : ¬ (pair d c).size = 0 := by rw [pair_size]; decide
 have h1 : LL ((pair d c).extract 0 1) = [d] := by rw [LL_ext, hp]; rfl
 have hz1 : ((pair d c).extract 0 1).size ≤ 1000 := by rw [← LL_len, h1]; simp
 have hfirst : LL (appB ((pair d c).extract 0 1) v) = gA v d := by
   rw [appB_LL _ v hs.1 hz1, h1]
   simp
 generalize hF : appB ((pair d c).extract 0 1) v = F at hfirst
 have hFs : F.size = (gA v d).length := by rw [← hfirst, LL_len]
 have hvs : (v.of c).size = (gA v d).length + r.length := by rw [← LL_len, h, List.length_append]
 have hb : begB (v.of c) F = true := by
   unfold begB
   rw [decide_eq_true (by omega), Bool.true_and, decide_eq_true_eq]
   refine LL_inj ?_
   rw [LL_ext, h, hfirst, hFs]
   simp
 have hrest : LL ((v.of c).extract F.size (v.of c).size) = r := by
   rw [LL_ext, List.take_of_length_le (by rw [LL_len]; exact Nat.le_refl _), h, hFs]
   simp
 generalize hW : (v.of c).extract F.size (v.of c).size = W at hrest
 have eu : undo v ⟨c, pair d c⟩ = (v.wit c W, true) := by
   unfold undo
   dsimp only
   rw [if_neg e0, hF, if_pos hb, hW]
 have hWs : W.size ≤ 5 := by
   have h5 := Vals.of_le hs.1 c
   rw [← LL_len, hrest]
   omega
 have hv' := Vals.wit_le hs.1 hWs c
 have gc : gA (v.wit c W) c = r := by unfold gA; rw [if_pos hc, of_wit v hc, hrest]
 have gd := gA_wit_ne v hc hcd W
 unfold Fits
 rw [eu]
 refine ⟨rfl, moved_same hs hv' hl hr c (pair d c) (by rw [pair_size]; exact Nat.le_refl _) ?_ (fun x hx => gA_wit_ne v hc hx W), ?_⟩
 · rw [hp, List.flatMap_cons, List.flatMap_cons, List.flatMap_nil, gc, gd]
   unfold gA at h ⊢
   rw [if_pos hc, List.append_nil]
   exact h
 · show rev (v.wit c W) ⟨c, pair d c⟩ = v
   unfold rev
   dsimp only
   rw [if_neg e0]
   have hb0 : bt (pair d c) 0 = d := bt0 hp
   have : (if isVar (bt (pair d c) 0) = true then (v.wit c W).of (bt (pair d c) 0) else (pair d c).extract 0 1) ++ (v.wit c W).of c = v.of c := by
     refine LL_inj ?_
     rw [LL_app, of_wit v hc, hrest, h, hb0]
     refine congrArg (· ++ r) ?_
     unfold gA
     split
     · rw [of_wit_ne v hc hcd]
     · exact h1
   rw [this, wit_wit v hc, wit_of v hc]
theorem prefix_of {a b s t : List Int} (h : a ++ s = b ++ t) : (∃ r, a = b ++ r) ∨ ∃ r, b = a ++ r := by
 rcases List.append_eq_append_iff.1 h with ⟨r, h1, _⟩ | ⟨r, h1, _⟩
 · exact .inr ⟨r, h1⟩
 · exact .inl ⟨r, h1⟩
theorem exists_move {e : Equ} {v : Vals} (hs : Solves e v) (hg : goodE e = true) (hl : e.left.size ≤ 100) (hr : e.right.size ≤ 100) (hne : ¬ ((strip e).left.size = 0 ∧ (strip e).right.size = 0)) : ∃ m ∈ moves (strip e), Fits e v m := by
 have hA := rests hs (by omega) (by omega)
 have hcl := no_clash hs (by omega) (by omega)
 obtain ⟨p, h1, h2, h3⟩ := strip_parts e
 unfold goodE at hg
 rw [Bool.and_eq_true] at hg
 have term : ∀ {s : ByteArray}, isTerm s = true → ∀ c ∈ LL s, termC c = true := fun h => by
   unfold isTerm at h
   rw [Bool.and_eq_true] at h
   exact (allB_LL _ _).1 h.1
 have tl := term hg.1
 have tr := term hg.2
 unfold moves
 rw [if_neg (by rw [hcl]; rintro (h | h); exact hne h; cases h)]
 by_cases hl0 : (strip e).left.size = 0
 · rw [if_pos hl0]
   have e1 : LL (strip e).left = [] := LL_nil.2 hl0
   have hr0 : LL (strip e).right ≠ [] := fun e2 => hne ⟨hl0, LL_nil.1 e2⟩
   obtain ⟨d, t, hd⟩ := List.exists_cons_of_ne_nil hr0
   rw [e1] at hA
   obtain ⟨k1, k2⟩ := gA_nil (flat_nil hA.symm d (by rw [hd]; exact List.mem_cons_self ..))
   rw [bt0 hd]
   exact ⟨_, List.mem_singleton.2 rfl, fit_empty hs hl hr k1 k2⟩
 rw [if_neg hl0]
 by_cases hr0 : (strip e).right.size = 0
 · rw [if_pos hr0]
   have e1 : LL (strip e).right = [] := LL_nil.2 hr0
   obtain ⟨d, t, hd⟩ := List.exists_cons_of_ne_nil (fun e2 => hl0 (LL_nil.1 e2))
   rw [e1] at hA
   obtain ⟨k1, k2⟩ := gA_nil (flat_nil hA d (by rw [hd]; exact List.mem_cons_self ..))
   rw [bt0 hd]
   exact ⟨_, List.mem_singleton.2 rfl, fit_empty hs hl hr k1 k2⟩
 rw [if_neg hr0]
 obtain ⟨c, s, hc⟩ := List.exists_cons_of_ne_nil (fun e2 => hl0 (LL_nil.1 e2))
 obtain ⟨d, t, hd⟩ := List.exists_cons_of_ne_nil (fun e2 => hr0 (LL_nil.1 e2))
 have hcd := h3 c d s t hc hd
 rw [bt0 hc, bt0 hd]
 have mc : c ∈ LL e.left := by rw [h1, hc]; simp
 have md : d ∈ LL e.right := by rw [h2, hd]; simp
 have bc := LL_mem mc
 have bd := LL_mem md
 have oc := tl c mc
 have od := tr d md
 rw [hc, hd, List.flatMap_cons, List.flatMap_cons] at hA
 have some_var : isVar c = true ∨ isVar d = true := by
   unfold clash at hcl
   rw [if_neg (by rintro (h | h); exact hl0 h; exact hr0 h), bt0 hc, bt0 hd] at hcl
   cases h5 : isVar c <;> cases h6 : isVar d <;> simp_all
 have ok : ∀ {x : Int}, termC x = true → (isVar x || decide (0 ≤ ltr x)) = true := fun h => by
   unfold termC at h; rw [Bool.or_comm]; exact h
 have in1 : ∀ {a b : Int}, isVar a = true → termC b = true → (⟨a, ⟨#[]⟩⟩ : Mov) ∈ first2 a b ∧ (⟨a, pair b a⟩ : Mov) ∈ first2 a b := fun {a b} h k => by
   unfold first2
   rw [if_pos h, if_pos (ok k)]
   exact ⟨List.mem_cons_self .., List.mem_cons_of_mem _ (List.mem_cons_self ..)⟩
 by_cases hcv : isVar c = true
 · by_cases hce : LL (v.of c) = []
   · exact ⟨_, List.mem_append_left _ (in1 hcv od).1, fit_empty hs hl hr hcv hce⟩
   have gc : gA v c = LL (v.of c) := by unfold gA; rw [if_pos hcv]
   rcases prefix_of hA with ⟨r, h⟩ | ⟨r, h⟩
   · exact ⟨_, List.mem_append_left _ (in1 hcv od).2, fit_pair hs hl hr hcv (Ne.symm hcd) bd (by rw [← gc]; exact h)⟩
   · by_cases hdv : isVar d = true
     · have gd : gA v d = LL (v.of d) := by unfold gA; rw [if_pos hdv]
       exact ⟨_, List.mem_append_right _ (in1 hdv oc).2, fit_pair hs hl hr hdv hcd bc (by rw [← gd]; exact h)⟩
     · have gd : gA v d = [d] := by unfold gA; rw [if_neg hdv]
       have : gA v c = gA v d ++ [] := by
         rw [List.append_nil]
         rw [gd] at h ⊢
         cases hq : gA v c with
         | nil => rw [gc] at hq; exact absurd hq hce
         | cons x xs =>
           rw [hq] at h
           obtain ⟨h8, h7⟩ := List.cons.inj h
           have := List.append_eq_nil_iff.1 h7.symm
           rw [this.1, h8]
       exact ⟨_, List.mem_append_left _ (in1 hcv od).2, fit_pair hs hl hr hcv (Ne.symm hcd) bd (by rw [← gc]; exact this)⟩
 · have hdv : isVar d = true := by rcases some_var with h | h; exact absurd h hcv; exact h
   have gc : gA v c = [c] := by unfold gA; rw [if_neg hcv]
   have gd : gA v d = LL (v.of d) := by unfold gA; rw [if_pos hdv]
   by_cases hde : LL (v.of d) = []
   · exact ⟨_, List.mem_append_right _ (in1 hdv oc).1, fit_empty hs hl hr hdv hde⟩
   rcases prefix_of hA with ⟨r, h⟩ | ⟨r, h⟩
   · have : gA v d = gA v c ++ [] := by
       rw [List.append_nil]
       rw [gc] at h ⊢
       cases hq : gA v d with
       | nil => rw [gd] at hq; exact absurd hq hde
       | cons x xs =>
         rw [hq] at h
         obtain ⟨h8, h7⟩ := List.cons.inj h
         have := List.append_eq_nil_iff.1 h7.symm
         rw [this.1, h8]
     exact ⟨_, List.mem_append_right _ (in1 hdv oc).2, fit_pair hs hl hr hdv hcd bc (by rw [← gd]; exact this)⟩
   · exact ⟨_, List.mem_append_right _ (in1 hdv oc).2, fit_pair hs hl hr hdv hcd bc (by rw [← gd]; exact h)⟩
end Go.Ev
namespace Go.Ev
theorem undo_le {v : Vals} {n : Nat} (h : v.le n) (m : Mov) : (undo v m).1.le n := by
 unfold undo
 split
 · exact h
 · split
   · refine Vals.wit_le h ?_ _
     have := Vals.of_le h m.name
     rw [ByteArray.size_extract]; omega
   · exact h
theorem moves_by (s : Equ) : ∀ m ∈ moves s, m.by_.size ≤ 2 := by
 intro m hm
 have e0 : (ByteArray.mk #[]).size = 0 := rfl
 have f2 : ∀ a b : Int, ∀ m ∈ first2 a b, m.by_.size ≤ 2 := by
   intro a b m hm
   unfold first2 at hm
   split at hm
   · split at hm
     · rcases List.mem_cons.1 hm with rfl | hm
       · exact (show (0 : Nat) ≤ 2 by decide)
       · obtain rfl := List.mem_singleton.1 hm
         exact Nat.le_of_eq (pair_size _ _)
     · obtain rfl := List.mem_singleton.1 hm
       exact (show (0 : Nat) ≤ 2 by decide)
   · cases hm
 unfold moves at hm
 split at hm
 · cases hm
 · split at hm
   · obtain rfl := List.mem_singleton.1 hm; exact (show (0 : Nat) ≤ 2 by decide)
   · split at hm
     · obtain rfl := List.mem_singleton.1 hm; exact (show (0 : Nat) ≤ 2 by decide)
     · rcases List.mem_append.1 hm with hm | hm
       · exact f2 _ _ m hm
       · exact f2 _ _ m hm
theorem moves_le (s : Equ) : (moves s).length ≤ 4 := by
 have f2 : ∀ a b : Int, (first2 a b).length ≤ 2 := by
   intro a b
   unfold first2
   split
   · split <;> simp
   · simp
 unfold moves
 split
 · simp
 · split
   · simp
   · split
     · simp
     · have := f2 (bt s.left 0) (bt s.right 0)
       have := f2 (bt s.right 0) (bt s.left 0)
       rw [List.length_append]; omega
end Go.Ev
namespace Go.Ev
open Go Go.RowKit

def TyOk (P : Program) : Nat → TypeId → List V → Prop
 | 0, _, _ => False
 | n + 1, t, vs => match P.underlying t with
   | some .bool => ∃ b, vs = [.bool b]
   | some (.int k) => ∃ m, vs = [.int k m] ∧ (Lit.int k m).wf = true
   | some .string => ∃ s, vs = [.str s] ∧ s.size ≤ maxLen
   | some (.slice e) => ∃ l, vs = [.slc false (P.cellsOf e) l] ∧ l.length ≤ maxLen ∧ ∀ x ∈ l, ∃ us, x = pack (isAgg P e) us ∧ TyOk P n e us ∧ us.length = P.cellsOf e
   | some (.struct fs) => vs.length = P.cellsOf t ∧ ∀ f ∈ fs.toList, TyOk P n f.type ((vs.drop f.offset).take (P.cellsOf f.type))
   | _ => False
def tiles (P : Program) : Nat → List Field → Nat → Bool
 | n, [], m => n == m
 | n, f :: fs, m => f.offset == n && P.cellsOf f.type != 0 && tiles P (n + P.cellsOf f.type) fs m
def closedT (P : Program) (L : List TypeId) : Bool := L.all fun t => match P.underlying t with
 | some .bool | some (.int _) | some .string => P.cellsOf t == 1
 | some (.slice e) => P.cellsOf t == 1 && memN e L && P.cellsOf e != 0 && (isAgg P e || P.cellsOf e == 1)
 | some (.struct fs) => fs.toList.all (fun f => memN f.type L) && tiles P 0 fs.toList (P.cellsOf t)
 | _ => false

theorem memN_mem : ∀ {l : List Nat} {n : Nat}, memN n l = true → n ∈ l := by
 intro l
 induction l with
 | nil => intro n h; cases h
 | cons a l ih =>
   intro n h
   unfold memN at h
   split at h
   · rename_i e; subst e; exact List.mem_cons_self ..
   · exact List.mem_cons_of_mem _ (ih h)

abbrev CellTr (W : World) (v : V) (c : Value) : Prop := Tr (fun g j => W.cell? ⟨g, j, none⟩) (fun _ _ => none) v c
def RowTr (W : World) (vs : List V) (cs : List Value) : Prop := vs.length = cs.length ∧ vs.all pureC = true ∧ ∀ j, j < vs.length → CellTr W (vs.getD j .undef) (cs.getD j Go.undef)

theorem RowTr.append {W : World} {a b : List V} {c d : List Value} (h : RowTr W a c) (h' : RowTr W b d) : RowTr W (a ++ b) (c ++ d) := by
 obtain ⟨h1, h2, h3⟩ := h
 obtain ⟨k1, k2, k3⟩ := h'
 refine ⟨by simp [h1, k1], by simp [List.all_append, h2, k2], fun j hj => ?_⟩
 simp only [List.getD_eq_getElem?_getD] at h3 k3 ⊢
 by_cases hl : j < a.length
 · rw [List.getElem?_append_left hl, List.getElem?_append_left (by omega)]
   exact h3 j hl
 · rw [List.getElem?_append_right (by omega), List.getElem?_append_right (by omega), ← h1]
   simp only [List.length_append] at hj
   exact k3 _ (by omega)

theorem tile_row {P : Program} {W : World} {Q : Field → List V → Prop} {m : Nat} {cs : List Value} (hm : cs.length = m) : ∀ (fs : List Field) (n : Nat), tiles P n fs m = true → n ≤ m →
   (∀ f ∈ fs, ∃ us, Q f us ∧ us.length = P.cellsOf f.type ∧ RowTr W us ((cs.drop f.offset).take (P.cellsOf f.type))) →
   ∃ vs, n + vs.length = m ∧ RowTr W vs (cs.drop n) ∧ ∀ f ∈ fs, n ≤ f.offset ∧ Q f ((vs.drop (f.offset - n)).take (P.cellsOf f.type)) := by
 intro fs
 induction fs with
 | nil =>
   intro n ht hn _
   have : n = m := by simpa [tiles] using ht
   subst this
   refine ⟨[], rfl, ?_, fun f hf => by cases hf⟩
   rw [List.drop_eq_nil_of_le (by omega)]
   exact ⟨rfl, rfl, fun j hj => by cases hj⟩
 | cons f fs ih =>
   intro n ht hn h
   simp only [tiles, Bool.and_eq_true, beq_iff_eq] at ht
   obtain ⟨⟨ho, h0⟩, ht⟩ := ht
   obtain ⟨us, hq, hl, hr⟩ := h f (List.mem_cons_self ..)
   have hle : n + P.cellsOf f.type ≤ m := by
     have := hr.1
     rw [hl, List.length_take, List.length_drop, ho, hm] at this
     omega
   obtain ⟨vs, hv, hw, hf⟩ := ih _ ht hle (fun g hg => h g (List.mem_cons_of_mem _ hg))
   refine ⟨us ++ vs, by rw [List.length_append]; omega, ?_, ?_⟩
   · have : cs.drop n = (cs.drop n).take (P.cellsOf f.type) ++ cs.drop (n + P.cellsOf f.type) := by
       rw [← List.drop_drop, List.take_append_drop]
     rw [this]
     rw [ho] at hr
     exact hr.append hw
   · intro g hg
     rcases List.mem_cons.1 hg with rfl | hg
     · refine ⟨by omega, ?_⟩
       rw [ho, Nat.sub_self, List.drop_zero, ← hl, List.take_left]
       exact hq
     · obtain ⟨h1, h2⟩ := hf g hg
       refine ⟨by omega, ?_⟩
       have : (us ++ vs).drop (g.offset - n) = vs.drop (g.offset - (n + P.cellsOf f.type)) := by
         rw [List.drop_append]
         rw [List.drop_eq_nil_of_le (by omega), List.nil_append]
         congr 1
         omega
       rw [this]
       exact h2

theorem exists_rows {α : Type} {p : Nat → α → Prop} : ∀ n, (∀ i, i < n → ∃ a, p i a) → ∃ xs : List α, xs.length = n ∧ ∀ i a, xs[i]? = some a → p i a
 | 0, _ => ⟨[], rfl, fun i a h => by simp at h⟩
 | n + 1, h => by
   obtain ⟨xs, hl, hx⟩ := exists_rows n (fun i hi => h i (by omega))
   obtain ⟨a, ha⟩ := h n (by omega)
   refine ⟨xs ++ [a], by simp [hl], fun i b hb => ?_⟩
   by_cases hi : i < n
   · rw [List.getElem?_append_left (by omega)] at hb
     exact hx i b hb
   · have hlt : i < (xs ++ [a]).length := by
       rcases Nat.lt_or_ge i (xs ++ [a]).length with h1 | h1
       · exact h1
       · rw [List.getElem?_eq_none h1] at hb; cases hb
     have : i = n := by simp [hl] at hlt; omega
     subst this
     rw [List.getElem?_append_right (by omega)] at hb
     simp [hl] at hb
     exact hb ▸ ha

theorem pack_flat {b : Bool} {us : List V} (h : b = true ∨ us.length = 1) (hp : us.all pureC = true) : (pack b us).flat = us := by
 unfold pack
 split
 · rfl
 · rcases h with h | h
   · rename_i e; exact absurd h e
   · match us, h with
     | [u], _ =>
       simp only [List.all_cons, List.all_nil, Bool.and_true] at hp
       cases u <;> first | rfl | cases hp

section
variable {H : Type} {enc : TypeId × Value → H} {P : Program} {W : World} {sp : Nat → Bool} {L : List TypeId}
theorem trod_tr (hL : closedT P L = true) : ∀ (fuel : Nat) (t : TypeId) (cs : List Value) (x : DataW H × List MemPlace), t ∈ L → DataW.trod enc P W 0 sp true fuel t cs = some x →
   ∃ vs, TyOk P fuel t vs ∧ vs.length = P.cellsOf t ∧ RowTr W vs cs := by
 intro fuel
 induction fuel with
 | zero => intro t cs x _ h; simp [DataW.trod] at h
 | succ fuel ih =>
   intro t cs x ht hx
   have hc := List.all_eq_true.1 hL t ht
   have one : ∀ {v : V} {c : Value}, pureC v = true → CellTr W v c → RowTr W [v] [c] := by
     intro v c hp hv
     refine ⟨rfl, by simp [hp], fun j hj => ?_⟩
     have : j = 0 := by simpa using hj
     subst this
     exact hv
   simp only [TyOk]
   revert hc
   cases hu : P.underlying t with
   | none => intro hc; cases hc
   | some td =>
     cases td with
     | bool =>
       intro hc
       simp only [DataW.trod, hu] at hx
       dsimp only at hc ⊢
       have hcc : P.cellsOf t = 1 := by simpa using hc
       rcases cs with _ | ⟨c, _ | ⟨c2, cs⟩⟩
       · simp at hx
       · cases c <;> simp at hx
         rename_i b
         exact ⟨[.bool b], ⟨b, rfl⟩, hcc.symm, one rfl (.bool b)⟩
       · simp at hx
     | int k =>
       intro hc
       simp only [DataW.trod, hu] at hx
       dsimp only at hc ⊢
       have hcc : P.cellsOf t = 1 := by simpa using hc
       rcases cs with _ | ⟨c, _ | ⟨c2, cs⟩⟩
       · simp at hx
       · cases c <;> simp at hx
         rename_i k' n
         obtain ⟨⟨rfl, hw⟩, _⟩ := hx
         exact ⟨[.int k' n], ⟨n, rfl, hw⟩, hcc.symm, one rfl (.int k' n)⟩
       · simp at hx
     | string =>
       intro hc
       simp only [DataW.trod, hu] at hx
       dsimp only at hc ⊢
       have hcc : P.cellsOf t = 1 := by simpa using hc
       rcases cs with _ | ⟨c, _ | ⟨c2, cs⟩⟩
       · simp at hx
       · cases c <;> simp at hx
         rename_i s
         exact ⟨[.str s], ⟨s, rfl, hx.1⟩, hcc.symm, one rfl (.str s)⟩
       · simp at hx
     | struct fs =>
       intro hc
       simp only [DataW.trod, hu] at hx
       dsimp only at hc ⊢
       simp only [Bool.and_eq_true] at hc
       obtain ⟨hcl, hti⟩ := hc
       split at hx
       · rename_i hl
         simp only [Option.map_eq_some_iff] at hx
         obtain ⟨xs, hxs, _⟩ := hx
         have hall : ∀ f ∈ fs.toList, ∃ us, TyOk P fuel f.type us ∧ us.length = P.cellsOf f.type ∧ RowTr W us ((cs.drop f.offset).take (P.cellsOf f.type)) := by
           intro f hf
           obtain ⟨i, hi, hie⟩ := List.getElem_of_mem hf
           have h1 := mapM_some_get hxs i f (by rw [List.getElem?_eq_getElem hi, hie])
           have h2 := mapM_some_length hxs
           rw [List.getElem?_eq_getElem (by omega)] at h1
           exact ih _ _ _ (memN_mem (List.all_eq_true.1 hcl f hf)) h1
         obtain ⟨vs, h1, h2, h3⟩ := tile_row (Q := fun f us => TyOk P fuel f.type us) hl fs.toList 0 hti (Nat.zero_le _) hall
         refine ⟨vs, ⟨by omega, fun f hf => ?_⟩, by omega, by simpa using h2⟩
         have := (h3 f hf).2
         simpa using this
       · cases hx
     | slice e =>
       intro hc
       simp only [DataW.trod, hu] at hx
       dsimp only at hc ⊢
       simp only [Bool.and_eq_true, Bool.or_eq_true, beq_iff_eq, bne_iff_ne, ne_eq] at hc
       obtain ⟨⟨⟨hcc, heL⟩, hne⟩, hag⟩ := hc
       split at hx
       all_goals (try (exfalso; simp_all; done))
       all_goals (try (rename_i heq; simp at heq; done))
       · rename_i heq
         refine ⟨[.slc false (P.cellsOf e) []], ⟨[], rfl, Nat.zero_le _, fun x hx => by cases hx⟩, hcc.symm, one rfl (.slc0 ..)⟩
       · rename_i e' a len cap hu'
         have hee : e' = e := by simpa using hu'.symm
         subst hee
         split at hx
         · rename_i hb
           obtain ⟨_, hlc, hcm⟩ := hb
           simp only [Option.bind_eq_some_iff] at hx
           obtain ⟨elems, hel, _⟩ := hx
           have h2 : elems.length = len := by have := mapM_some_length hel; simpa using this
           have hall : ∀ i, i < len → ∃ us : List V, ∃ cs : List Value, W.cells? 0 (a.add (i * P.cellsOf e')) (P.cellsOf e') = some cs ∧ TyOk P fuel e' us ∧ us.length = P.cellsOf e' ∧ RowTr W us cs := by
             intro i hi
             have h1 := mapM_some_get hel i i (by simp [hi])
             rw [List.getElem?_eq_getElem (by omega)] at h1
             simp only [Option.bind_eq_some_iff] at h1
             obtain ⟨cs, hcs, hy⟩ := h1
             obtain ⟨us, h3, h4, h5⟩ := ih _ _ _ (memN_mem heL) hy
             exact ⟨us, cs, hcs, h3, h4, h5⟩
           obtain ⟨xs, hl, hxs⟩ := exists_rows len hall
           subst hl
           by_cases h0 : xs.length = 0
           · have : xs = [] := List.length_eq_zero_iff.1 h0
             subst this
             exact ⟨[.slc false (P.cellsOf e') []], ⟨[], rfl, Nat.zero_le _, fun x hx => by cases hx⟩, hcc.symm, one rfl (.slc0 ..)⟩
           · have hcell : ∀ i us, xs[i]? = some us → ∀ j, j < P.cellsOf e' → ∃ c, W.cell? ((a.add (i * P.cellsOf e')).add j) = some c ∧ CellTr W (us.getD j .undef) c := by
               intro i us hi j hj
               obtain ⟨cs, hcs, h3, h4, h5⟩ := hxs i us hi
               unfold World.cells? at hcs
               simp at hcs
               have h6 := mapM_some_length hcs
               have h1 := mapM_some_get hcs j j (by simp [hj])
               have hj' : j < cs.length := by simpa [h6] using hj
               rw [List.getElem?_eq_getElem hj'] at h1
               refine ⟨_, h1, ?_⟩
               have := h5.2.2 j (by omega)
               simpa [List.getD_eq_getElem?_getD, List.getElem?_eq_getElem hj'] using this
             have hspot : a.spot = none := by
               obtain ⟨us, hus⟩ : ∃ us, xs[0]? = some us := ⟨_, List.getElem?_eq_getElem (by omega)⟩
               obtain ⟨c, h1, _⟩ := hcell 0 us hus 0 (by omega)
               have := World.cell?_spot h1
               simpa [Addr.add] using this
             obtain ⟨ab, ao, asp⟩ := a
             dsimp only at hspot
             subst hspot
             have hadd : ∀ i j, (Addr.add (Addr.add ⟨ab, ao, none⟩ (i * P.cellsOf e')) j) = ⟨ab, ao + i * P.cellsOf e' + j, none⟩ := by
               intro i j
               unfold Addr.add
               split
               · rename_i hj; subst hj
                 split
                 · rename_i hi; simp [hi]
                 · rfl
               · split
                 · rename_i hi; simp [hi]
                 · rfl
             have hpk : ∀ us ∈ xs, us.length = P.cellsOf e' ∧ us.all pureC = true ∧ (pack (isAgg P e') us).flat = us := by
               intro us hus
               obtain ⟨i, hi, hie⟩ := List.getElem_of_mem hus
               obtain ⟨cs, hcs, h3, h4, h5⟩ := hxs i us (by rw [List.getElem?_eq_getElem hi, hie])
               refine ⟨h4, h5.2.1, pack_flat ?_ h5.2.1⟩
               rcases hag with h | h
               · exact .inl h
               · exact .inr (by omega)
             have hget : ∀ i (hi : i < xs.length), ((xs.map (pack (isAgg P e'))).getD i .undef).flat = xs[i] := by
               intro i hi
               simp only [List.getD_eq_getElem?_getD, List.getElem?_map, List.getElem?_eq_getElem hi, Option.map_some, Option.getD_some]
               exact (hpk _ (List.getElem_mem hi)).2.2
             refine ⟨[.slc false (P.cellsOf e') (xs.map (pack (isAgg P e')))], ⟨_, rfl, by simp only [List.length_map]; omega, ?_⟩, hcc.symm, ?_⟩
             · intro v hv
               obtain ⟨us, hus, rfl⟩ := List.mem_map.1 hv
               obtain ⟨i, hi, hie⟩ := List.getElem_of_mem hus
               obtain ⟨cs, hcs, h3, h4, h5⟩ := hxs i us (by rw [List.getElem?_eq_getElem hi, hie])
               exact ⟨us, rfl, h3, h4⟩
             · have hlen : (xs.map (pack (isAgg P e'))).length = xs.length := List.length_map ..
               have key := Tr.slc (S := fun g j => W.cell? ⟨g, j, none⟩) (β := fun _ _ => none) (P.cellsOf e') (xs.map (pack (isAgg P e'))) ab ao cap
                 (fun i j => (W.cell? ⟨ab, ao + i * P.cellsOf e' + j, none⟩).getD Go.undef) (by omega)
                 (by
                   intro v hv
                   obtain ⟨us, hus, rfl⟩ := List.mem_map.1 hv
                   obtain ⟨h1, h2, h3⟩ := hpk us hus
                   rw [h3]
                   exact ⟨h1, h2⟩)
                 (by
                   intro i j hi hj
                   rw [hlen] at hi
                   obtain ⟨c, h1, _⟩ := hcell i xs[i] (List.getElem?_eq_getElem hi) j hj
                   rw [hadd] at h1
                   rw [h1]
                   rfl)
                 (by
                   intro i j hi hj
                   rw [hlen] at hi
                   obtain ⟨c, h1, h2⟩ := hcell i xs[i] (List.getElem?_eq_getElem hi) j hj
                   rw [hadd] at h1
                   rw [h1, hget i hi]
                   exact h2)
               rw [hlen] at key
               exact one rfl key
         · cases hx
     | _ => intro hc; cases hc
end
def fieldsOf (P : Program) (t : TypeId) : Option (List (TypeId × Nat)) := match P.underlying t with
 | some (.struct fs) => some (fs.toList.map fun f => (f.type, f.offset))
 | _ => none
theorem tyOk_int {P : Program} {t : TypeId} {n : Nat} {vs : List V} {k : IntKind} (hu : P.underlying t = some (.int k)) (h : TyOk P n t vs) : ∃ m, vs = [.int k m] ∧ (Lit.int k m).wf = true := by
 cases n with
 | zero => cases h
 | succ n => simpa only [TyOk, hu] using h
theorem list_of {α : Type} {f : α → V} : ∀ {l : List V}, (∀ x ∈ l, ∃ a : α, x = f a ∧ okV (f a)) → ∃ as : List α, l = as.map f ∧ okL (as.map f) := by
 intro l
 induction l with
 | nil => intro _; exact ⟨[], rfl, trivial⟩
 | cons b l ih =>
   intro h
   obtain ⟨a, rfl, ha⟩ := h b (List.mem_cons_self ..)
   obtain ⟨as, rfl, hs⟩ := ih fun x hx => h x (List.mem_cons_of_mem _ hx)
   exact ⟨a :: as, rfl, ha, hs⟩
theorem tyOk_slc {P : Program} {t e : TypeId} {n : Nat} {vs : List V} {α : Type} {f : α → V} (hu : P.underlying t = some (.slice e)) (he : ∀ us, TyOk P n e us → ∃ a : α, pack (isAgg P e) us = f a ∧ okV (f a)) (h : TyOk P (n + 1) t vs) :
   ∃ l : List α, vs = [.slc false (P.cellsOf e) (l.map f)] ∧ l.length ≤ 9223372036854775807 ∧ okL (l.map f) := by
 simp only [TyOk, hu] at h
 obtain ⟨l, rfl, hl, hx⟩ := h
 obtain ⟨as, rfl, hs⟩ := list_of (f := f) (l := l) fun x hm => by
   obtain ⟨us, rfl, h1, _⟩ := hx x hm
   exact he us h1
 exact ⟨as, rfl, by rw [List.length_map] at hl; exact hl, hs⟩
theorem ty_int1 {P : Program} {e : TypeId} {n : Nat} {us : List V} {k : IntKind} (ha : isAgg P e = false) (hu : P.underlying e = some (.int k)) (h : TyOk P n e us) : ∃ a : Int, pack (isAgg P e) us = V.int k a ∧ okV (V.int k a) := by
 obtain ⟨m, rfl, hw⟩ := tyOk_int hu h
 rw [ha]
 exact ⟨m, rfl, hw⟩
theorem RowTr.one {W : World} {v : V} {c : Value} (h : RowTr W [v] [c]) : CellTr W v c := by
 have := h.2.2 0 (by simp)
 exact this
theorem RowTr.agg {W : World} {vs : List V} {cs : Array Value} (h : RowTr W vs cs.toList) : CellTr W (.agg vs) (.agg cs) := by
 refine .agg _ _ (by simpa using h.1) fun i hi => ?_
 have := h.2.2 i hi
 simpa [List.getD_eq_getElem?_getD, Array.getD_eq_getD_getElem?] using this
end Go.Ev
