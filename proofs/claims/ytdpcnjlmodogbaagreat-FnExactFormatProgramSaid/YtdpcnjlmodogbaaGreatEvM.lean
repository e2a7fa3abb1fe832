/- Frames, states and steps: what both sides compute. An assignment that freezes, in a drawn region. What an expression compiles to. Programs of lines: what they do. An argument that reads as data, as a tree. -/
import Derived.OpenShut
import Derived.ProofKit
import Derived.ChangeOld
import Derived.DataReads
import Derived.Test.YtdpcnjlmodogbaaGreatEvK
import Derived.Test.YtdpcnjlmodogbaaGreatEvJ
import Derived.Test.YtdpcnjlmodogbaaGreatEvL
import Derived.Test.YtdpcnjlmodogbaaGreatEvI
set_option linter.unusedVariables false
set_option linter.unusedSimpArgs false
namespace Go.Ev
open Go
set_option linter.unusedVariables false
def nums (n : Int) (l : List Int) : Bool := l.all fun q => decide (0 ≤ q) && decide (q ≤ n - 1)
def rowN (n : Nat) (r : List Int) : Bool := ((r.length : Int) == n) && nums n r
def goodM (m : Mon) : Bool := !((m.maps.length : Int) == 0) && (((m.letters.length : Int) == 3) && (((m.product.length : Int) == m.maps.length) && (nums m.maps.length m.letters && m.product.all (rowN m.maps.length))))
def eqSta (a b : Sta) : Bool := (a.left.toList == b.left.toList) && ((a.right.toList == b.right.toList) && (a.maps == b.maps))
def solved (s : Sta) : Bool := decide (s.left.size = 0) && decide (s.right.size = 0)
def noM (l : List (List Int)) : Bool := l.any fun x => ((x.length : Int) == 0)
theorem getD_I {l : List Int} {i : Nat} (h : i < l.length) (v : V) : (l.map I).getD i v = I l[i] := by rw [getD_map h]
theorem drop_beq {l m : List Int} {i : Nat} (h1 : i < l.length) (h2 : i < m.length) : (l.drop i == m.drop i) = ((l[i] == m[i]) && (l.drop (i + 1) == m.drop (i + 1))) := by
  rw [List.drop_eq_getElem_cons h1, List.drop_eq_getElem_cons h2]
  rfl
end Go.Ev
namespace Go.Ev
theorem lcp_stop (l r : ByteArray) : ∀ (n k : Nat), l.size - k ≤ n → ¬ (lcp l r k < l.size ∧ lcp l r k < r.size ∧ bt l (lcp l r k) = bt r (lcp l r k)) := by
  intro n
  induction n with
  | zero => intro k h; rw [lcp_end (by omega)]; omega
  | succ n ih =>
    intro k h
    by_cases hc : k < l.size ∧ k < r.size ∧ bt l k = bt r k
    · rw [lcp_next hc.1 hc.2.1 hc.2.2]; exact ih _ (by omega)
    · rw [lcp_end hc]; exact hc
theorem strip_strip (e : Equ) : strip (strip e) = strip e := by
  unfold strip
  dsimp only
  have h := lcp_stop e.left e.right _ 0 (Nat.le_refl _)
  generalize lcp e.left e.right 0 = K at h ⊢
  have h0 : lcp (ext e.left K) (ext e.right K) 0 = 0 := by
    refine lcp_end ?_
    rintro ⟨h1, h2, h3⟩
    rw [ext_size] at h1 h2
    have e1 := ext_bt0 e.left K (by omega)
    have e2 := ext_bt0 e.right K (by omega)
    exact h ⟨by omega, by omega, by rw [← e1, ← e2]; exact h3⟩
  rw [h0, ext_zero, ext_zero]
theorem app_nil (a b : ByteArray) : decide ((a ++ b).size = 0) = (decide (a.size = 0) && decide (b.size = 0)) := by
  rw [ByteArray.size_append]
  by_cases h1 : a.size = 0 <;> by_cases h2 : b.size = 0 <;> simp [h1, h2]
theorem bt_app_left (a b : ByteArray) (h : 0 < a.size) : bt (a ++ b) 0 = bt a 0 := by
  unfold bt
  have h1 : (0 : Int).toNat < (a ++ b).size := by rw [ByteArray.size_append]; simp; omega
  have h2 : (0 : Int).toNat < a.size := by simpa using h
  rw [dif_pos h1, dif_pos h2]
  congr 2
  exact ByteArray.getElem_append_left h2
theorem bt_app_right (a b : ByteArray) (h : a.size = 0) : a ++ b = b := by
  have : a = ByteArray.empty := by
    apply ByteArray.ext
    exact Array.eq_empty_of_size_eq_zero h
  rw [this]
  simp
end Go.Ev
namespace Go.Ev
theorem idx_neg (c : UInt8) : ∀ l : List UInt8, Go.Lib.indexByte l c < 0 ↔ ∀ b ∈ l, b ≠ c := by
  intro l
  induction l with
  | nil => simp [Go.Lib.indexByte]
  | cons b l ih =>
    have hge := Go.Lib.indexByte_ge l c
    unfold Go.Lib.indexByte
    by_cases hb : b = c
    · subst hb; simp
    · have hb' : (b == c) = false := by simpa using hb
      rw [hb']
      simp only [Bool.false_eq_true, if_false, List.mem_cons, forall_eq_or_imp, ne_eq, hb, not_false_eq_true, true_and]
      by_cases hi : Go.Lib.indexByte l c = -1
      · rw [if_pos (by simp [hi])]
        constructor
        · intro _ x hx; exact ih.1 (by omega) x hx
        · intro _; decide
      · rw [if_neg (by simpa using hi)]
        constructor
        · intro h; omega
        · intro h; exact absurd (ih.2 h) (by omega)
theorem cnt_zero (c : Int) (s : ByteArray) : ∀ (n i : Nat), s.size - i ≤ n → (cntB c s i = 0 ↔ ∀ j : Nat, i ≤ j → j < s.size → bt s j ≠ c) := by
  intro n
  induction n with
  | zero => intro i h; rw [cntB_end c s (by omega)]; exact ⟨fun _ j h1 h2 => by omega, fun _ => rfl⟩
  | succ n ih =>
    intro i h
    by_cases hi : i < s.size
    · rw [cntB_next c s hi]
      have := ih (i + 1) (by omega)
      by_cases hb : bt s (i : Int) = c
      · rw [if_pos hb]
        exact ⟨fun h => by omega, fun h => absurd hb (h i (Nat.le_refl _) hi)⟩
      · rw [if_neg hb, Nat.zero_add, this]
        constructor
        · intro h j h1 h2
          by_cases hj : j = i
          · subst hj; exact hb
          · exact h j (by omega) h2
        · intro h j h1 h2; exact h j (by omega) h2
    · rw [cntB_end c s hi]; exact ⟨fun _ j h1 h2 => by omega, fun _ => rfl⟩
theorem idx_cnt (s : ByteArray) (c : Int) (h0 : 0 ≤ c) (h1 : c < 256) : (idxB s c < 0) = (cntB c s 0 = 0) := by
  apply propext
  rw [cnt_zero c s _ 0 (Nat.le_refl _)]
  unfold idxB
  rw [idx_neg]
  have key : ∀ b : UInt8, b = c.toNat.toUInt8 ↔ (b.toNat : Int) = c := by
    intro b
    have hb := b.toNat_lt
    constructor
    · rintro rfl
      have : (c.toNat.toUInt8).toNat = c.toNat := by
        show (UInt8.ofNat c.toNat).toNat = _
        simp only [UInt8.toNat_ofNat']
        omega
      omega
    · intro h
      apply UInt8.toNat_inj.1
      have : (c.toNat.toUInt8).toNat = c.toNat := by
        show (UInt8.ofNat c.toNat).toNat = _
        simp only [UInt8.toNat_ofNat']
        omega
      omega
  constructor
  · intro h j _ hj e
    have hm : s.data.toList[j]'(by simpa using hj) ∈ s.data.toList := List.getElem_mem _
    refine h _ hm ((key _).2 ?_)
    unfold bt at e
    rw [dif_pos (by simpa using hj)] at e
    have e2 : ((s.data[j]'(by simpa using hj)).toNat : Int) = c := e
    simpa using e2
  · intro h b hb e
    obtain ⟨j, hj, rfl⟩ := List.getElem_of_mem hb
    have hj' : j < s.size := by simpa using hj
    refine h j (Nat.zero_le _) hj' ?_
    unfold bt
    rw [dif_pos (by simpa using hj')]
    have e2 : ((s.data[j]'hj').toNat : Int) = c := by
      have := (key _).1 e
      simpa using this
    exact e2
/-! start states -/
def choice (e : Equ) (c : Int) (l : List Int) : List Int := if cntB c (e.left ++ e.right) 0 = 0 then l.take 1 else l
def xyz (k : Nat) : Int := bt ⟨#[88, 89, 90]⟩ k
def staR (e : Equ) (a b : Int) (z : List Int) : List Sta := z.map fun c => ⟨e.left, e.right, [a, b, c]⟩
def staY (e : Equ) (a : Int) (y z : List Int) : List Sta := y.flatMap fun b => staR e a b z
def staX (e : Equ) (x y z : List Int) : List Sta := x.flatMap fun a => staY e a y z
def startsOf (e : Equ) (x y z : List Int) : List Sta := if x.length * y.length * z.length > 400 then [] else staX e x y z
def chs (f : Frm) (k : Nat) : List Int := choice f.equ (xyz k) (f.allowed.getD k [])
def starts (f : Frm) : List Sta := if f.allowed.length = 3 then startsOf (strip f.equ) (chs f 0) (chs f 1) (chs f 2) else []
theorem staR_len (e : Equ) (a b : Int) (z : List Int) : (staR e a b z).length = z.length := by simp [staR]
theorem staY_len (e : Equ) (a : Int) (z : List Int) : ∀ y : List Int, (staY e a y z).length = y.length * z.length := by
  intro y
  induction y with
  | nil => simp [staY]
  | cons b y ih =>
    have : staY e a (b :: y) z = staR e a b z ++ staY e a y z := by simp [staY]
    rw [this, List.length_append, ih, staR_len, List.length_cons, Nat.succ_mul]; omega
theorem staX_len (e : Equ) (y z : List Int) : ∀ x : List Int, (staX e x y z).length = x.length * y.length * z.length := by
  intro x
  induction x with
  | nil => simp [staX]
  | cons b x ih =>
    have : staX e (b :: x) y z = staY e b y z ++ staX e x y z := by simp [staX]
    rw [this, List.length_append, ih, staY_len, List.length_cons, Nat.succ_mul, Nat.add_mul]; omega
theorem staX_cons (e : Equ) (a : Int) (x y z : List Int) : staX e (a :: x) y z = staY e a y z ++ staX e x y z := by simp [staX]
theorem staY_cons (e : Equ) (a b : Int) (y z : List Int) : staY e a (b :: y) z = staR e a b z ++ staY e a y z := by simp [staY]
theorem staR_cons (e : Equ) (a b c : Int) (z : List Int) : staR e a b (c :: z) = ⟨e.left, e.right, [a, b, c]⟩ :: staR e a b z := rfl
theorem choice_le (e : Equ) (c : Int) (l : List Int) : (choice e c l).length ≤ l.length := by
  unfold choice
  split
  · simp; omega
  · exact Nat.le_refl _
theorem chs_le (f : Frm) (k n : Nat) (h : ∀ l ∈ f.allowed, l.length ≤ n) : (chs f k).length ≤ n := by
  unfold chs
  refine Nat.le_trans (choice_le _ _ _) ?_
  rw [List.getD_eq_getElem?_getD]
  cases hh : f.allowed[k]? with
  | none => simp
  | some l => exact h _ (List.mem_of_getElem? hh)
theorem min_take (l : List Int) : ((l.map I).take (min 1 l.length)) = (l.take 1).map I := by
  rw [List.map_take]
  cases l with
  | nil => rfl
  | cons a l =>
    have : min 1 (a :: l).length = 1 := by simp
    rw [this]
theorem min_len (l : List Int) : (if (1 : Int) < (l.length : Int) then (1 : Int) else (l.length : Int)) = ((min 1 l.length : Nat) : Int) := by
  split <;> omega
theorem min_len2 (l : List Int) : (if (l.length : Int) < 1 then (l.length : Int) else 1) = ((min 1 l.length : Nat) : Int) := by
  split <;> omega
end Go.Ev
namespace Go.Ev
theorem prod_ge {a b c : Nat} (ha : 0 < a) (hb : 0 < b) (hc : 0 < c) : a ≤ a * b * c ∧ b ≤ a * b * c ∧ c ≤ a * b * c := by
  have h1 : a ≤ a * b := Nat.le_mul_of_pos_right a hb
  have h2 : b ≤ a * b := Nat.le_mul_of_pos_left b ha
  have h3 : a * b ≤ a * b * c := Nat.le_mul_of_pos_right _ hc
  have h4 : c ≤ a * b * c := Nat.le_mul_of_pos_left c (by omega)
  omega
theorem prod_big {a b c : Nat} (h : a > 1000 ∨ b > 1000 ∨ c > 1000) (hp : ¬ a * b * c > 400) : a * b * c = 0 := by
  rcases Nat.eq_zero_or_pos a with rfl | ha
  · simp
  rcases Nat.eq_zero_or_pos b with rfl | hb
  · simp
  rcases Nat.eq_zero_or_pos c with rfl | hc
  · simp
  have := prod_ge ha hb hc
  omega
theorem prod_min (a b c : Nat) : (min a 401 * min b 401 * min c 401 > 400) ↔ a * b * c > 400 := by
  constructor
  · intro h
    have : min a 401 * min b 401 * min c 401 ≤ a * b * c := Nat.mul_le_mul (Nat.mul_le_mul (Nat.min_le_left _ _) (Nat.min_le_left _ _)) (Nat.min_le_left _ _)
    omega
  · intro h
    rcases Nat.eq_zero_or_pos a with rfl | ha
    · simp at h
    rcases Nat.eq_zero_or_pos b with rfl | hb
    · simp at h
    rcases Nat.eq_zero_or_pos c with rfl | hc
    · simp at h
    have h1 := prod_ge (a := min a 401) (b := min b 401) (c := min c 401) (by omega) (by omega) (by omega)
    by_cases k1 : a > 400
    · omega
    by_cases k2 : b > 400
    · omega
    by_cases k3 : c > 400
    · omega
    rw [Nat.min_eq_left (by omega : a ≤ 401), Nat.min_eq_left (by omega : b ≤ 401), Nat.min_eq_left (by omega : c ≤ 401)]
    exact h
theorem starts_big {e : Equ} {x y z : List Int} (h : x.length > 1000 ∨ y.length > 1000 ∨ z.length > 1000) : startsOf e x y z = [] := by
  unfold startsOf
  split
  · rfl
  · rename_i hp
    refine List.eq_nil_of_length_eq_zero ?_
    rw [staX_len]
    exact prod_big h hp
end Go.Ev
namespace Go.Ev
def cntK (f : Frm) : Nat → Nat
  | 0 => 1
  | i + 1 => cntK f i * min (chs f i).length 401
theorem cntK_le (f : Frm) : ∀ i, cntK f i ≤ 401 ^ i := by
  intro i
  induction i with
  | zero => exact Nat.le_refl _
  | succ i ih => exact Nat.mul_le_mul ih (Nat.min_le_right _ _)
theorem cntK_3 (f : Frm) : cntK f 3 = min (chs f 0).length 401 * min (chs f 1).length 401 * min (chs f 2).length 401 := by
  show 1 * _ * _ * _ = _
  rw [Nat.one_mul]
theorem min_401 (n : Nat) : (if (401 : Int) < (n : Int) then (401 : Int) else (n : Int)) = ((min n 401 : Nat) : Int) := by
  split <;> omega
theorem snoc_range {α : Type} (f : Nat → α) (g : α → V) (i : Nat) : ((List.range i).map f).map g ++ [g (f i)] = ((List.range (i + 1)).map f).map g := by
  rw [List.range_succ, List.map_append, List.map_append]; rfl
end Go.Ev
namespace Go.Ev
open Go
section
variable {E : Env} {ev : Run} {s : St} {ty : TypeId} {pos : String} {aft : Array Edge} {g : Option (Nat × Bool)}
theorem w_assign (d : Nat) (x : Operand) : stepOV E ev { dst := some d, op := .assign x, type := ty, pos := pos, after := aft, guard := g } s = putS d s.n (evV E.P (E.H s.f) d ty (.assign x) s) := put_eq ..
end
attribute [go_sem] w_assign
end Go.Ev
namespace Go.Ev
open Go
set_option linter.unusedVariables false
def anyD : DN := ⟨[false, true, false], [(1, 1, 1), (2, 2, 2), (2, 2, 2)]⟩
def noD : DN := ⟨[false], [(0, 0, 0)]⟩
def leafR (k : Int) (s : ByteArray) : DN := if k = 2 then quotS (wordW ByteArray.empty) 0 else if k = 3 then quotS (wordW s) 0 else if k = 4 then anyD else noD
def opR (k : Int) (s : ByteArray) : List (Option DN) → Option DN
  | [] => some (leafR k s)
  | [a] => a.bind fun d => if k = 9 then some (cplD (quotS d 0)) else starD d
  | a :: b :: _ => a.bind fun d => b.bind fun e => if k = 5 then concD d e else fitD (prodD k d e)
def compR (r : Rx) : Option DN := opR r.kind r.letter (r.args.attach.map fun x => compR x.1)
  termination_by SizeOf.sizeOf r
  decreasing_by exact Rx.lt _ x.2
theorem compR_eq (r : Rx) : compR r = opR r.kind r.letter (r.args.map compR) := by rw [compR, List.attach_map_val (f := compR)]
theorem anyD_val : Val anyD := ⟨⟨rfl, by decide⟩, by decide, by decide⟩
theorem noD_val : Val noD := ⟨⟨rfl, by decide⟩, by decide, by decide⟩
theorem word0 : isWord ByteArray.empty = true := by
  unfold isWord
  rw [allB]
  rfl
theorem wordQ_val {s : ByteArray} (h : isWord s = true) : Val (quotS (wordW s) 0) := quotS_val (wordW_val (word_le h)) (by rw [(wordW_ok s).2]; omega)
theorem leafR_val {k : Int} {s : ByteArray} (h : k = 3 → isWord s = true) : Val (leafR k s) := by
  unfold leafR
  by_cases h2 : k = 2
  · rw [if_pos h2]; exact wordQ_val word0
  rw [if_neg h2]
  by_cases h3 : k = 3
  · rw [if_pos h3]; exact wordQ_val (h h3)
  rw [if_neg h3]
  by_cases h4 : k = 4
  · rw [if_pos h4]; exact anyD_val
  · rw [if_neg h4]; exact noD_val
theorem concD_val {a b e : DN} (ha : Val a) (hb : Val b) (h : concD a b = some e) : Val e := by
  unfold concD at h
  by_cases hl : (listC2 a b).length ≤ 400
  · rw [if_pos hl] at h
    exact fitD_val (expD_ok hl).1 (expD_ok hl).2.1 h
  · rw [if_neg hl] at h; cases h
theorem starD_val {d e : DN} (hd : Val d) (h : starD d = some e) : Val e := by
  unfold starD at h
  by_cases hl : (listT d).length ≤ 400
  · rw [if_pos hl] at h
    exact fitD_val (expD_ok hl).1 (expD_ok hl).2.1 h
  · rw [if_neg hl] at h; cases h
theorem good_args {r : Rx} (h : r.good = true) : (∀ x ∈ r.args, x.good = true) ∧ okTop r = true := by
  rw [Rx.good_eq, Bool.and_eq_true, List.all_eq_true] at h
  exact ⟨fun x hx => h.1 _ (List.mem_map_of_mem hx), h.2⟩
theorem okTop_word {r : Rx} (h : okTop r = true) (k : r.kind = 3) : isWord r.letter = true := by
  unfold okTop at h
  rw [if_pos k, Bool.and_eq_true, Bool.and_eq_true] at h
  exact h.2.2
theorem okTop_len {r : Rx} (h : okTop r = true) : (r.args.length : Int) = argN r.kind := by
  unfold okTop at h
  rw [Bool.and_eq_true, beq_iff_eq] at h
  exact h.1
theorem compR_val (r : Rx) (hg : r.good = true) {e : DN} (h : compR r = some e) : Val e := by
  obtain ⟨h1, h2⟩ := good_args hg
  have ih : ∀ x ∈ r.args, ∀ d, compR x = some d → Val d := fun x hx d hd => compR_val x (h1 x hx) hd
  rw [compR_eq] at h
  match ha : r.args, h with
  | [], h =>
    rw [List.map_nil] at h
    cases h
    exact leafR_val (okTop_word h2)
  | [x], h =>
    rw [List.map_cons, List.map_nil] at h
    have hx := ih x (by rw [ha]; exact List.mem_cons_self ..)
    unfold opR at h
    cases hc : compR x with
    | none => rw [hc] at h; cases h
    | some d =>
      rw [hc] at h
      change (if r.kind = 9 then some (cplD (quotS d 0)) else starD d) = some e at h
      have hd := hx _ hc
      by_cases k9 : r.kind = 9
      · rw [if_pos k9] at h
        cases h
        exact cplD_val (quotS_val hd hd.pos)
      · rw [if_neg k9] at h
        exact starD_val hd h
  | x :: y :: l, h =>
    rw [List.map_cons, List.map_cons] at h
    have hx := ih x (by rw [ha]; exact List.mem_cons_self ..)
    have hy := ih y (by rw [ha]; exact List.mem_cons_of_mem _ (List.mem_cons_self ..))
    unfold opR at h
    cases hc : compR x with
    | none => rw [hc] at h; cases h
    | some d =>
      cases hc' : compR y with
      | none => rw [hc, hc'] at h; cases h
      | some f =>
        rw [hc, hc'] at h
        change (if r.kind = 5 then concD d f else fitD (prodD r.kind d f)) = some e at h
        have hd := hx _ hc
        have hf := hy _ hc'
        by_cases k5 : r.kind = 5
        · rw [if_pos k5] at h
          exact concD_val hd hf h
        · rw [if_neg k5] at h
          exact fitD_val (prodD_ok hd hf).1 (prodD_ok hd hf).2.1 h
  termination_by SizeOf.sizeOf r
  decreasing_by exact Rx.lt _ hx
/-- arities -/
theorem good_cases {r : Rx} (h : r.good = true) : ((r.kind = 1 ∨ r.kind = 2 ∨ r.kind = 3 ∨ r.kind = 4) ∧ r.args = []) ∨ ((r.kind = 8 ∨ r.kind = 9) ∧ ∃ x, r.args = [x]) ∨ ((r.kind = 5 ∨ r.kind = 6 ∨ r.kind = 7) ∧ ∃ x y, r.args = [x, y]) := by
  have hl := okTop_len (good_args h).2
  unfold argN at hl
  by_cases h1 : r.kind = 1 ∨ r.kind = 2 ∨ r.kind = 3 ∨ r.kind = 4
  · rw [if_pos h1] at hl
    exact Or.inl ⟨h1, List.eq_nil_of_length_eq_zero (by omega)⟩
  rw [if_neg h1] at hl
  by_cases h2 : r.kind = 8 ∨ r.kind = 9
  · rw [if_pos h2] at hl
    refine Or.inr (Or.inl ⟨h2, ?_⟩)
    match ha : r.args, hl with
    | [], hl => simp at hl
    | [x], _ => exact ⟨x, rfl⟩
    | x :: y :: l, hl => simp at hl; omega
  rw [if_neg h2] at hl
  by_cases h3 : r.kind = 5 ∨ r.kind = 6 ∨ r.kind = 7
  · rw [if_pos h3] at hl
    refine Or.inr (Or.inr ⟨h3, ?_⟩)
    match ha : r.args, hl with
    | [], hl => simp at hl
    | [x], hl => simp at hl
    | [x, y], _ => exact ⟨x, y, rfl⟩
    | x :: y :: z :: l, hl => simp at hl; omega
  · rw [if_neg h3] at hl
    omega
end Go.Ev
namespace Go.Ev
open Go
/-- letters alone -/
def Ltrs (s : ByteArray) : Prop := ∀ i : Nat, i < s.size → isLtr (bt s i) = true
theorem ltrs_word {s : ByteArray} (h : isWord s = true) : Ltrs s := by
  unfold isWord at h
  rw [Bool.and_eq_true] at h
  exact fun i hi => allB_get _ 0 (Nat.le_refl _) h.2 i (Nat.zero_le _) hi
theorem word_30 {s : ByteArray} (h : isWord s = true) : s.size ≤ 30 := by
  unfold isWord at h
  rw [Bool.and_eq_true] at h
  exact of_decide_eq_true h.1
theorem isLtr_abc {c : Int} (h : isLtr c = true) : c = 97 ∨ c = 98 ∨ c = 99 := by
  unfold isLtr ltr at h
  have := of_decide_eq_true h
  repeat' split at this
  all_goals omega
theorem bt_append_l (a b : ByteArray) {i : Nat} (h : i < a.size) : bt (a ++ b) (i : Int) = bt a (i : Int) := by
  have h2 : i < (a ++ b).size := by rw [ByteArray.size_append]; omega
  unfold bt
  simp only [Int.toNat_natCast, h, h2, dif_pos]
  rw [ByteArray.getElem_append_left]
theorem bt_append_r (a b : ByteArray) {i : Nat} (h : a.size ≤ i) (h' : i < (a ++ b).size) : bt (a ++ b) (i : Int) = bt b ((i - a.size : Nat) : Int) := by
  have h2 : i - a.size < b.size := by rw [ByteArray.size_append] at h'; omega
  unfold bt
  simp only [Int.toNat_natCast, h', h2, dif_pos]
  rw [ByteArray.getElem_append_right h]
theorem Ltrs.app {a b : ByteArray} (ha : Ltrs a) (hb : Ltrs b) : Ltrs (a ++ b) := by
  intro i hi
  by_cases k : i < a.size
  · rw [bt_append_l a b k]; exact ha i k
  · rw [bt_append_r a b (by omega) hi]
    exact hb _ (by rw [ByteArray.size_append] at hi; omega)
theorem Ltrs.nil : Ltrs ⟨#[]⟩ := fun i hi => absurd hi (Nat.not_lt_zero _)
theorem Ltrs.one {s : ByteArray} (h : Ltrs s) {i : Nat} (hi : i < s.size) : Ltrs (one s i) := by
  intro j hj
  rw [one_size s i hi] at hj
  obtain rfl : j = 0 := by omega
  have := bt_extract s i (i + 1) 0 (by omega) (by omega)
  unfold Go.Ev.one
  rw [this]
  exact h _ hi
/-- what stands for a byte -/
def imgM (m : Mor) (s : ByteArray) (i : Nat) : ByteArray := if bt s i = 97 then m.a else if bt s i = 98 then m.b else if bt s i = 99 then m.c else one s i
def appM (m : Mor) (s : ByteArray) : ByteArray := repl (imgM m s) s 0 ⟨#[]⟩
theorem appM_le (m : Mor) (s : ByteArray) : (appM m s).size ≤ 1048576 := repl_le _ _ _ 0 _ (Nat.le_refl _) (by decide)
theorem repl_ltrs {by_ : Nat → ByteArray} {s : ByteArray} (hb : ∀ i, i < s.size → Ltrs (by_ i)) : ∀ (n i : Nat) (out : ByteArray), s.size - i ≤ n → Ltrs out → Ltrs (repl by_ s i out) := by
  intro n
  induction n with
  | zero => intro i out h ho; rw [repl_end (by omega)]; exact ho
  | succ n ih =>
    intro i out h ho
    by_cases k : i < s.size
    · rw [repl_next k]
      split
      · exact Ltrs.nil
      · exact ih _ _ (by omega) (ho.app (hb i k))
    · rw [repl_end k]; exact ho
theorem small_ltrs {s : ByteArray} (h : small s = true) : Ltrs s ∧ s.size ≤ 3 := by
  unfold small at h
  rw [Bool.and_eq_true] at h
  exact ⟨ltrs_word h.1, of_decide_eq_true h.2⟩
theorem isMor_ltrs {m : Mor} (h : isMor m = true) : (Ltrs m.a ∧ m.a.size ≤ 3) ∧ (Ltrs m.b ∧ m.b.size ≤ 3) ∧ (Ltrs m.c ∧ m.c.size ≤ 3) := by
  unfold isMor at h
  rw [Bool.and_eq_true, Bool.and_eq_true] at h
  exact ⟨small_ltrs h.1, small_ltrs h.2.1, small_ltrs h.2.2⟩
theorem appM_ltrs {m : Mor} (hm : isMor m = true) {s : ByteArray} (h : Ltrs s) : Ltrs (appM m s) := by
  obtain ⟨⟨ha, _⟩, ⟨hb, _⟩, ⟨hc, _⟩⟩ := isMor_ltrs hm
  refine repl_ltrs (fun i hi => ?_) _ 0 _ (Nat.le_refl _) Ltrs.nil
  unfold imgM
  split
  · exact ha
  split
  · exact hb
  split
  · exact hc
  exact h.one hi
/-- the state behind the rest of a string -/
def nxL (t : Nat × Nat × Nat) (c : Int) : Nat := if c = 97 then t.1 else if c = 98 then t.2.1 else t.2.2
def walk (d : DN) (s : ByteArray) (q i : Nat) : Nat := if i < s.size then walk d s (nxL (d.nx q) (bt s i)) (i + 1) else q
  termination_by s.size - i
theorem walk_next {d : DN} {s : ByteArray} {q i : Nat} (h : i < s.size) : walk d s q i = walk d s (nxL (d.nx q) (bt s i)) (i + 1) := by rw [walk, if_pos h]
theorem walk_end {d : DN} {s : ByteArray} {q i : Nat} (h : ¬ i < s.size) : walk d s q i = q := by rw [walk, if_neg h]
theorem nxL_lt {d : DN} (ho : d.ok) {q : Nat} (h : q < d.accept.length) (c : Int) : nxL (d.nx q) c < d.accept.length := by
  obtain ⟨h1, h2, h3⟩ := DN.nx_lt ho h
  unfold nxL
  split
  · exact h1
  split
  · exact h2
  · exact h3
theorem walk_lt {d : DN} (ho : d.ok) (s : ByteArray) : ∀ (n q i : Nat), s.size - i ≤ n → q < d.accept.length → walk d s q i < d.accept.length := by
  intro n
  induction n with
  | zero => intro q i h hq; rw [walk_end (by omega)]; exact hq
  | succ n ih =>
    intro q i h hq
    by_cases k : i < s.size
    · rw [walk_next k]; exact ih _ _ (by omega) (nxL_lt ho hq _)
    · rw [walk_end k]; exact hq
def accD (d : DN) (s : ByteArray) : Bool := d.accept.getD (walk d s 0 0) false
end Go.Ev
namespace Go.Ev
open Go
/-- an expression's text -/
def opT (k : Int) (s : ByteArray) : List ByteArray → ByteArray
  | [] => if k = 1 then ⟨#[48]⟩ else if k = 2 then ⟨#[49]⟩ else if k = 3 then s else ⟨#[46]⟩
  | [a] => (if k = 8 then ⟨#[42]⟩ else ⟨#[33]⟩) ++ a
  | a :: b :: _ => ((⟨#[40]⟩ ++ a) ++ (if k = 6 then ⟨#[124]⟩ else if k = 7 then ⟨#[38]⟩ else ⟨#[]⟩)) ++ b ++ ⟨#[41]⟩
def textR (r : Rx) : ByteArray := opT r.kind r.letter (r.args.attach.map fun x => textR x.1)
  termination_by SizeOf.sizeOf r
  decreasing_by exact Rx.lt _ x.2
theorem textR_eq (r : Rx) : textR r = opT r.kind r.letter (r.args.map textR) := by rw [textR, List.attach_map_val (f := textR)]
theorem textR_le (r : Rx) (hg : r.good = true) : (textR r).size ≤ 3 * r.nodes := by
  obtain ⟨h1, h2⟩ := good_args hg
  have ih : ∀ x ∈ r.args, (textR x).size ≤ 3 * x.nodes := fun x hx => textR_le x (h1 x hx)
  rw [textR_eq, Rx.nodes_eq]
  rcases good_cases hg with ⟨k, ha⟩ | ⟨k, x, ha⟩ | ⟨k, x, y, ha⟩
  · rw [ha] at ih ⊢
    have hl : r.kind = 3 → r.letter.size = 1 := by
      intro k3
      unfold okTop at h2
      rw [if_pos k3, Bool.and_eq_true, Bool.and_eq_true] at h2
      exact of_decide_eq_true h2.2.1
    show (if r.kind = 1 then (⟨#[48]⟩ : ByteArray) else if r.kind = 2 then ⟨#[49]⟩ else if r.kind = 3 then r.letter else ⟨#[46]⟩).size ≤ 3
    split
    · decide
    split
    · decide
    split
    · rename_i k3; rw [hl k3]; decide
    · decide
  · have hx := ih x (by rw [ha]; exact List.mem_cons_self ..)
    rw [ha]
    show ((if r.kind = 8 then (⟨#[42]⟩ : ByteArray) else ⟨#[33]⟩) ++ textR x).size ≤ 3 * (1 + (x.nodes + 0))
    rw [ByteArray.size_append]
    have : (if r.kind = 8 then (⟨#[42]⟩ : ByteArray) else ⟨#[33]⟩).size = 1 := by split <;> rfl
    omega
  · have hx := ih x (by rw [ha]; exact List.mem_cons_self ..)
    have hy := ih y (by rw [ha]; exact List.mem_cons_of_mem _ (List.mem_cons_self ..))
    rw [ha]
    show (((⟨#[40]⟩ ++ textR x) ++ (if r.kind = 6 then (⟨#[124]⟩ : ByteArray) else if r.kind = 7 then ⟨#[38]⟩ else ⟨#[]⟩)) ++ textR y ++ (⟨#[41]⟩ : ByteArray)).size ≤ 3 * (1 + (x.nodes + (y.nodes + 0)))
    have e1 : (⟨#[40]⟩ : ByteArray).size = 1 := rfl
    have e2 : (⟨#[41]⟩ : ByteArray).size = 1 := rfl
    have e3 : (if r.kind = 6 then (⟨#[124]⟩ : ByteArray) else if r.kind = 7 then ⟨#[38]⟩ else ⟨#[]⟩).size ≤ 1 := by
      split
      · decide
      split <;> decide
    simp only [ByteArray.size_append]
    omega
  termination_by SizeOf.sizeOf r
  decreasing_by exact Rx.lt _ hx
def fmtR (r : Rx) : ByteArray := if validR r = true then textR r else ⟨#[]⟩
theorem fmtR_le (r : Rx) : (fmtR r).size ≤ 48 := by
  unfold fmtR
  split
  · rename_i h
    unfold validR at h
    rw [Bool.and_eq_true, Bool.and_eq_true] at h
    have := textR_le r h.2.2
    have := of_decide_eq_true h.1
    omega
  · decide
/-- a dash for nothing -/
def dash (s : ByteArray) : ByteArray := if s.size = 0 then ⟨#[45]⟩ else s
theorem dash_le (s : ByteArray) : (dash s).size ≤ s.size + 1 := by
  unfold dash
  split
  · have : (⟨#[45]⟩ : ByteArray).size = 1 := rfl
    omega
  · omega
end Go.Ev
namespace Go.Ev
open Go Go.RowKit
set_option linter.unusedVariables false
set_option linter.unusedSimpArgs false

/-- typed cells, as deep as the reading went -/
def TyOk (P : Program) : Nat → TypeId → List V → Prop
  | 0, _, _ => False
  | n + 1, t, vs => match P.underlying t with
    | some .bool => ∃ b, vs = [.bool b]
    | some (.int k) => ∃ m, vs = [.int k m] ∧ (Lit.int k m).wf = true
    | some .string => ∃ s, vs = [.str s] ∧ s.size ≤ maxLen
    | some (.slice e) => ∃ l, vs = [.slc false (P.cellsOf e) l] ∧ l.length ≤ maxLen ∧ ∀ x ∈ l, ∃ us, x = pack (isAgg P e) us ∧ TyOk P n e us ∧ us.length = P.cellsOf e
    | some (.struct fs) => vs.length = P.cellsOf t ∧ ∀ f ∈ fs.toList, TyOk P n f.type ((vs.drop f.offset).take (P.cellsOf f.type))
    | _ => False
/-- a struct's fields lie one behind the other -/
def tiles (P : Program) : Nat → List Field → Nat → Bool
  | n, [], m => n == m
  | n, f :: fs, m => f.offset == n && P.cellsOf f.type != 0 && tiles P (n + P.cellsOf f.type) fs m
def closedT (P : Program) (L : List TypeId) : Bool := L.all fun t => match P.underlying t with
  | some .bool | some (.int _) | some .string => P.cellsOf t == 1
  | some (.slice e) => P.cellsOf t == 1 && memN e L && P.cellsOf e != 0 && (isAgg P e || P.cellsOf e == 1)
  | some (.struct fs) => fs.toList.all (fun f => memN f.type L) && tiles P 0 fs.toList (P.cellsOf t)
  | _ => false

theorem memN_mem : ∀ {l : List Nat} {n : Nat}, memN n l = true → n ∈ l := by
  intro l
  induction l with
  | nil => intro n h; cases h
  | cons a l ih =>
    intro n h
    unfold memN at h
    split at h
    · rename_i e; subst e; exact List.mem_cons_self ..
    · exact List.mem_cons_of_mem _ (ih h)

abbrev CellTr (W : World) (v : V) (c : Value) : Prop := Tr (fun g j => W.cell? ⟨g, j, none⟩) (fun _ _ => none) v c
/-- a row of cells, read as trees -/
def RowTr (W : World) (vs : List V) (cs : List Value) : Prop := vs.length = cs.length ∧ vs.all pureC = true ∧ ∀ j, j < vs.length → CellTr W (vs.getD j .undef) (cs.getD j Go.undef)

theorem RowTr.append {W : World} {a b : List V} {c d : List Value} (h : RowTr W a c) (h' : RowTr W b d) : RowTr W (a ++ b) (c ++ d) := by
  obtain ⟨h1, h2, h3⟩ := h
  obtain ⟨k1, k2, k3⟩ := h'
  refine ⟨by simp [h1, k1], by simp [List.all_append, h2, k2], fun j hj => ?_⟩
  simp only [List.getD_eq_getElem?_getD] at h3 k3 ⊢
  by_cases hl : j < a.length
  · rw [List.getElem?_append_left hl, List.getElem?_append_left (by omega)]
    exact h3 j hl
  · rw [List.getElem?_append_right (by omega), List.getElem?_append_right (by omega), ← h1]
    simp only [List.length_append] at hj
    exact k3 _ (by omega)

theorem tile_row {P : Program} {W : World} {Q : Field → List V → Prop} {m : Nat} {cs : List Value} (hm : cs.length = m) : ∀ (fs : List Field) (n : Nat), tiles P n fs m = true → n ≤ m →
    (∀ f ∈ fs, ∃ us, Q f us ∧ us.length = P.cellsOf f.type ∧ RowTr W us ((cs.drop f.offset).take (P.cellsOf f.type))) →
    ∃ vs, n + vs.length = m ∧ RowTr W vs (cs.drop n) ∧ ∀ f ∈ fs, n ≤ f.offset ∧ Q f ((vs.drop (f.offset - n)).take (P.cellsOf f.type)) := by
  intro fs
  induction fs with
  | nil =>
    intro n ht hn _
    have : n = m := by simpa [tiles] using ht
    subst this
    refine ⟨[], rfl, ?_, fun f hf => by cases hf⟩
    rw [List.drop_eq_nil_of_le (by omega)]
    exact ⟨rfl, rfl, fun j hj => by cases hj⟩
  | cons f fs ih =>
    intro n ht hn h
    simp only [tiles, Bool.and_eq_true, beq_iff_eq] at ht
    obtain ⟨⟨ho, h0⟩, ht⟩ := ht
    obtain ⟨us, hq, hl, hr⟩ := h f (List.mem_cons_self ..)
    have hle : n + P.cellsOf f.type ≤ m := by
      have := hr.1
      rw [hl, List.length_take, List.length_drop, ho, hm] at this
      omega
    obtain ⟨vs, hv, hw, hf⟩ := ih _ ht hle (fun g hg => h g (List.mem_cons_of_mem _ hg))
    refine ⟨us ++ vs, by rw [List.length_append]; omega, ?_, ?_⟩
    · have : cs.drop n = (cs.drop n).take (P.cellsOf f.type) ++ cs.drop (n + P.cellsOf f.type) := by
        rw [← List.drop_drop, List.take_append_drop]
      rw [this]
      rw [ho] at hr
      exact hr.append hw
    · intro g hg
      rcases List.mem_cons.1 hg with rfl | hg
      · refine ⟨by omega, ?_⟩
        rw [ho, Nat.sub_self, List.drop_zero, ← hl, List.take_left]
        exact hq
      · obtain ⟨h1, h2⟩ := hf g hg
        refine ⟨by omega, ?_⟩
        have : (us ++ vs).drop (g.offset - n) = vs.drop (g.offset - (n + P.cellsOf f.type)) := by
          rw [List.drop_append]
          rw [List.drop_eq_nil_of_le (by omega), List.nil_append]
          congr 1
          omega
        rw [this]
        exact h2

theorem exists_rows {α : Type} {p : Nat → α → Prop} : ∀ n, (∀ i, i < n → ∃ a, p i a) → ∃ xs : List α, xs.length = n ∧ ∀ i a, xs[i]? = some a → p i a
  | 0, _ => ⟨[], rfl, fun i a h => by simp at h⟩
  | n + 1, h => by
    obtain ⟨xs, hl, hx⟩ := exists_rows n (fun i hi => h i (by omega))
    obtain ⟨a, ha⟩ := h n (by omega)
    refine ⟨xs ++ [a], by simp [hl], fun i b hb => ?_⟩
    by_cases hi : i < n
    · rw [List.getElem?_append_left (by omega)] at hb
      exact hx i b hb
    · have hlt : i < (xs ++ [a]).length := by
        rcases Nat.lt_or_ge i (xs ++ [a]).length with h1 | h1
        · exact h1
        · rw [List.getElem?_eq_none h1] at hb; cases hb
      have : i = n := by simp [hl] at hlt; omega
      subst this
      rw [List.getElem?_append_right (by omega)] at hb
      simp [hl] at hb
      exact hb ▸ ha

theorem pack_flat {b : Bool} {us : List V} (h : b = true ∨ us.length = 1) (hp : us.all pureC = true) : (pack b us).flat = us := by
  unfold pack
  split
  · rfl
  · rcases h with h | h
    · rename_i e; exact absurd h e
    · match us, h with
      | [u], _ =>
        simp only [List.all_cons, List.all_nil, Bool.and_true] at hp
        cases u <;> first | rfl | cases hp

section
variable {H : Type} {enc : TypeId × Value → H} {P : Program} {W : World} {sp : Nat → Bool} {L : List TypeId}
theorem trod_tr (hL : closedT P L = true) : ∀ (fuel : Nat) (t : TypeId) (cs : List Value) (x : DataW H × List MemPlace), t ∈ L → DataW.trod enc P W 0 sp true fuel t cs = some x →
    ∃ vs, TyOk P fuel t vs ∧ vs.length = P.cellsOf t ∧ RowTr W vs cs := by
  intro fuel
  induction fuel with
  | zero => intro t cs x _ h; simp [DataW.trod] at h
  | succ fuel ih =>
    intro t cs x ht hx
    have hc := List.all_eq_true.1 hL t ht
    have one : ∀ {v : V} {c : Value}, pureC v = true → CellTr W v c → RowTr W [v] [c] := by
      intro v c hp hv
      refine ⟨rfl, by simp [hp], fun j hj => ?_⟩
      have : j = 0 := by simpa using hj
      subst this
      exact hv
    simp only [TyOk]
    revert hc
    cases hu : P.underlying t with
    | none => intro hc; cases hc
    | some td =>
      cases td with
      | bool =>
        intro hc
        simp only [DataW.trod, hu] at hx
        dsimp only at hc ⊢
        have hcc : P.cellsOf t = 1 := by simpa using hc
        rcases cs with _ | ⟨c, _ | ⟨c2, cs⟩⟩
        · simp at hx
        · cases c <;> simp at hx
          rename_i b
          exact ⟨[.bool b], ⟨b, rfl⟩, hcc.symm, one rfl (.bool b)⟩
        · simp at hx
      | int k =>
        intro hc
        simp only [DataW.trod, hu] at hx
        dsimp only at hc ⊢
        have hcc : P.cellsOf t = 1 := by simpa using hc
        rcases cs with _ | ⟨c, _ | ⟨c2, cs⟩⟩
        · simp at hx
        · cases c <;> simp at hx
          rename_i k' n
          obtain ⟨⟨rfl, hw⟩, _⟩ := hx
          exact ⟨[.int k' n], ⟨n, rfl, hw⟩, hcc.symm, one rfl (.int k' n)⟩
        · simp at hx
      | string =>
        intro hc
        simp only [DataW.trod, hu] at hx
        dsimp only at hc ⊢
        have hcc : P.cellsOf t = 1 := by simpa using hc
        rcases cs with _ | ⟨c, _ | ⟨c2, cs⟩⟩
        · simp at hx
        · cases c <;> simp at hx
          rename_i s
          exact ⟨[.str s], ⟨s, rfl, hx.1⟩, hcc.symm, one rfl (.str s)⟩
        · simp at hx
      | struct fs =>
        intro hc
        simp only [DataW.trod, hu] at hx
        dsimp only at hc ⊢
        simp only [Bool.and_eq_true] at hc
        obtain ⟨hcl, hti⟩ := hc
        split at hx
        · rename_i hl
          simp only [Option.map_eq_some_iff] at hx
          obtain ⟨xs, hxs, _⟩ := hx
          have hall : ∀ f ∈ fs.toList, ∃ us, TyOk P fuel f.type us ∧ us.length = P.cellsOf f.type ∧ RowTr W us ((cs.drop f.offset).take (P.cellsOf f.type)) := by
            intro f hf
            obtain ⟨i, hi, hie⟩ := List.getElem_of_mem hf
            have h1 := mapM_some_get hxs i f (by rw [List.getElem?_eq_getElem hi, hie])
            have h2 := mapM_some_length hxs
            rw [List.getElem?_eq_getElem (by omega)] at h1
            exact ih _ _ _ (memN_mem (List.all_eq_true.1 hcl f hf)) h1
          obtain ⟨vs, h1, h2, h3⟩ := tile_row (Q := fun f us => TyOk P fuel f.type us) hl fs.toList 0 hti (Nat.zero_le _) hall
          refine ⟨vs, ⟨by omega, fun f hf => ?_⟩, by omega, by simpa using h2⟩
          have := (h3 f hf).2
          simpa using this
        · cases hx
      | slice e =>
        intro hc
        simp only [DataW.trod, hu] at hx
        dsimp only at hc ⊢
        simp only [Bool.and_eq_true, Bool.or_eq_true, beq_iff_eq, bne_iff_ne, ne_eq] at hc
        obtain ⟨⟨⟨hcc, heL⟩, hne⟩, hag⟩ := hc
        split at hx
        all_goals (try (exfalso; simp_all; done))
        all_goals (try (rename_i heq; simp at heq; done))
        · rename_i heq
          refine ⟨[.slc false (P.cellsOf e) []], ⟨[], rfl, Nat.zero_le _, fun x hx => by cases hx⟩, hcc.symm, one rfl (.slc0 ..)⟩
        · rename_i e' a len cap hu'
          have hee : e' = e := by simpa using hu'.symm
          subst hee
          split at hx
          · rename_i hb
            obtain ⟨_, hlc, hcm⟩ := hb
            simp only [Option.bind_eq_some_iff] at hx
            obtain ⟨elems, hel, _⟩ := hx
            have h2 : elems.length = len := by have := mapM_some_length hel; simpa using this
            have hall : ∀ i, i < len → ∃ us : List V, ∃ cs : List Value, W.cells? 0 (a.add (i * P.cellsOf e')) (P.cellsOf e') = some cs ∧ TyOk P fuel e' us ∧ us.length = P.cellsOf e' ∧ RowTr W us cs := by
              intro i hi
              have h1 := mapM_some_get hel i i (by simp [hi])
              rw [List.getElem?_eq_getElem (by omega)] at h1
              simp only [Option.bind_eq_some_iff] at h1
              obtain ⟨cs, hcs, hy⟩ := h1
              obtain ⟨us, h3, h4, h5⟩ := ih _ _ _ (memN_mem heL) hy
              exact ⟨us, cs, hcs, h3, h4, h5⟩
            obtain ⟨xs, hl, hxs⟩ := exists_rows len hall
            subst hl
            by_cases h0 : xs.length = 0
            · have : xs = [] := List.length_eq_zero_iff.1 h0
              subst this
              exact ⟨[.slc false (P.cellsOf e') []], ⟨[], rfl, Nat.zero_le _, fun x hx => by cases hx⟩, hcc.symm, one rfl (.slc0 ..)⟩
            · have hcell : ∀ i us, xs[i]? = some us → ∀ j, j < P.cellsOf e' → ∃ c, W.cell? ((a.add (i * P.cellsOf e')).add j) = some c ∧ CellTr W (us.getD j .undef) c := by
                intro i us hi j hj
                obtain ⟨cs, hcs, h3, h4, h5⟩ := hxs i us hi
                unfold World.cells? at hcs
                simp at hcs
                have h6 := mapM_some_length hcs
                have h1 := mapM_some_get hcs j j (by simp [hj])
                have hj' : j < cs.length := by simpa [h6] using hj
                rw [List.getElem?_eq_getElem hj'] at h1
                refine ⟨_, h1, ?_⟩
                have := h5.2.2 j (by omega)
                simpa [List.getD_eq_getElem?_getD, List.getElem?_eq_getElem hj'] using this
              have hspot : a.spot = none := by
                obtain ⟨us, hus⟩ : ∃ us, xs[0]? = some us := ⟨_, List.getElem?_eq_getElem (by omega)⟩
                obtain ⟨c, h1, _⟩ := hcell 0 us hus 0 (by omega)
                have := World.cell?_spot h1
                simpa [Addr.add] using this
              obtain ⟨ab, ao, asp⟩ := a
              dsimp only at hspot
              subst hspot
              have hadd : ∀ i j, (Addr.add (Addr.add ⟨ab, ao, none⟩ (i * P.cellsOf e')) j) = ⟨ab, ao + i * P.cellsOf e' + j, none⟩ := by
                intro i j
                unfold Addr.add
                split
                · rename_i hj; subst hj
                  split
                  · rename_i hi; simp [hi]
                  · rfl
                · split
                  · rename_i hi; simp [hi]
                  · rfl
              have hpk : ∀ us ∈ xs, us.length = P.cellsOf e' ∧ us.all pureC = true ∧ (pack (isAgg P e') us).flat = us := by
                intro us hus
                obtain ⟨i, hi, hie⟩ := List.getElem_of_mem hus
                obtain ⟨cs, hcs, h3, h4, h5⟩ := hxs i us (by rw [List.getElem?_eq_getElem hi, hie])
                refine ⟨h4, h5.2.1, pack_flat ?_ h5.2.1⟩
                rcases hag with h | h
                · exact .inl h
                · exact .inr (by omega)
              have hget : ∀ i (hi : i < xs.length), ((xs.map (pack (isAgg P e'))).getD i .undef).flat = xs[i] := by
                intro i hi
                simp only [List.getD_eq_getElem?_getD, List.getElem?_map, List.getElem?_eq_getElem hi, Option.map_some, Option.getD_some]
                exact (hpk _ (List.getElem_mem hi)).2.2
              refine ⟨[.slc false (P.cellsOf e') (xs.map (pack (isAgg P e')))], ⟨_, rfl, by simp only [List.length_map]; omega, ?_⟩, hcc.symm, ?_⟩
              · intro v hv
                obtain ⟨us, hus, rfl⟩ := List.mem_map.1 hv
                obtain ⟨i, hi, hie⟩ := List.getElem_of_mem hus
                obtain ⟨cs, hcs, h3, h4, h5⟩ := hxs i us (by rw [List.getElem?_eq_getElem hi, hie])
                exact ⟨us, rfl, h3, h4⟩
              · have hlen : (xs.map (pack (isAgg P e'))).length = xs.length := List.length_map ..
                have key := Tr.slc (S := fun g j => W.cell? ⟨g, j, none⟩) (β := fun _ _ => none) (P.cellsOf e') (xs.map (pack (isAgg P e'))) ab ao cap
                  (fun i j => (W.cell? ⟨ab, ao + i * P.cellsOf e' + j, none⟩).getD Go.undef) (by omega)
                  (by
                    intro v hv
                    obtain ⟨us, hus, rfl⟩ := List.mem_map.1 hv
                    obtain ⟨h1, h2, h3⟩ := hpk us hus
                    rw [h3]
                    exact ⟨h1, h2⟩)
                  (by
                    intro i j hi hj
                    rw [hlen] at hi
                    obtain ⟨c, h1, _⟩ := hcell i xs[i] (List.getElem?_eq_getElem hi) j hj
                    rw [hadd] at h1
                    rw [h1]
                    rfl)
                  (by
                    intro i j hi hj
                    rw [hlen] at hi
                    obtain ⟨c, h1, h2⟩ := hcell i xs[i] (List.getElem?_eq_getElem hi) j hj
                    rw [hadd] at h1
                    rw [h1, hget i hi]
                    exact h2)
                rw [hlen] at key
                exact one rfl key
          · cases hx
      | _ => intro hc; cases hc
end
/-! typed cells, laid open -/
def fieldsOf (P : Program) (t : TypeId) : Option (List (TypeId × Nat)) := match P.underlying t with
  | some (.struct fs) => some (fs.toList.map fun f => (f.type, f.offset))
  | _ => none
theorem tyOk_struct {P : Program} {t : TypeId} {n : Nat} {vs : List V} {L : List (TypeId × Nat)} (h0 : fieldsOf P t = some L) (h : TyOk P (n + 1) t vs) : vs.length = P.cellsOf t ∧ ∀ p ∈ L, TyOk P n p.1 ((vs.drop p.2).take (P.cellsOf p.1)) := by
  unfold fieldsOf at h0
  simp only [TyOk] at h
  split at h0
  · rename_i fs hu
    rw [hu] at h
    obtain rfl := Option.some.inj h0
    refine ⟨h.1, fun p hp => ?_⟩
    obtain ⟨f, hf, rfl⟩ := List.mem_map.1 hp
    exact h.2 f hf
  · cases h0
theorem tyOk_int {P : Program} {t : TypeId} {n : Nat} {vs : List V} {k : IntKind} (hu : P.underlying t = some (.int k)) (h : TyOk P n t vs) : ∃ m, vs = [.int k m] ∧ (Lit.int k m).wf = true := by
  cases n with
  | zero => cases h
  | succ n => simpa only [TyOk, hu] using h
theorem tyOk_bool {P : Program} {t : TypeId} {n : Nat} {vs : List V} (hu : P.underlying t = some .bool) (h : TyOk P n t vs) : ∃ m, vs = [.bool m] := by
  cases n with
  | zero => cases h
  | succ n => simpa only [TyOk, hu] using h
theorem tyOk_str {P : Program} {t : TypeId} {n : Nat} {vs : List V} (hu : P.underlying t = some .string) (h : TyOk P n t vs) : ∃ m : ByteArray, vs = [.str m] ∧ m.size ≤ 9223372036854775807 := by
  cases n with
  | zero => cases h
  | succ n =>
    simp only [TyOk, hu] at h
    exact h
theorem list_of {α : Type} {f : α → V} : ∀ {l : List V}, (∀ x ∈ l, ∃ a : α, x = f a ∧ okV (f a)) → ∃ as : List α, l = as.map f ∧ okL (as.map f) := by
  intro l
  induction l with
  | nil => intro _; exact ⟨[], rfl, trivial⟩
  | cons b l ih =>
    intro h
    obtain ⟨a, rfl, ha⟩ := h b (List.mem_cons_self ..)
    obtain ⟨as, rfl, hs⟩ := ih fun x hx => h x (List.mem_cons_of_mem _ hx)
    exact ⟨a :: as, rfl, ha, hs⟩
theorem tyOk_slc {P : Program} {t e : TypeId} {n : Nat} {vs : List V} {α : Type} {f : α → V} (hu : P.underlying t = some (.slice e)) (he : ∀ us, TyOk P n e us → ∃ a : α, pack (isAgg P e) us = f a ∧ okV (f a)) (h : TyOk P (n + 1) t vs) :
    ∃ l : List α, vs = [.slc false (P.cellsOf e) (l.map f)] ∧ l.length ≤ 9223372036854775807 ∧ okL (l.map f) := by
  simp only [TyOk, hu] at h
  obtain ⟨l, rfl, hl, hx⟩ := h
  obtain ⟨as, rfl, hs⟩ := list_of (f := f) (l := l) fun x hm => by
    obtain ⟨us, rfl, h1, _⟩ := hx x hm
    exact he us h1
  exact ⟨as, rfl, by rw [List.length_map] at hl; exact hl, hs⟩
theorem tyOk_slcR {P : Program} {t e : TypeId} {n : Nat} {vs : List V} {α : Type} {f : α → V} (hu : P.underlying t = some (.slice e)) (he : ∀ m, m < n → ∀ us, TyOk P m e us → ∃ a : α, pack (isAgg P e) us = f a ∧ okV (f a)) (h : TyOk P n t vs) :
    ∃ l : List α, vs = [.slc false (P.cellsOf e) (l.map f)] ∧ l.length ≤ 9223372036854775807 ∧ okL (l.map f) := by
  cases n with
  | zero => cases h
  | succ n => exact tyOk_slc hu (he n (Nat.lt_succ_self n)) h
theorem ty_agg {P : Program} {e : TypeId} {us : List V} {α : Type} {f : α → V} (ha : isAgg P e = true) (h : ∃ a : α, V.agg us = f a ∧ okV (f a)) : ∃ a : α, pack (isAgg P e) us = f a ∧ okV (f a) := by
  rw [ha]; exact h
theorem ty_int1 {P : Program} {e : TypeId} {n : Nat} {us : List V} {k : IntKind} (ha : isAgg P e = false) (hu : P.underlying e = some (.int k)) (h : TyOk P n e us) : ∃ a : Int, pack (isAgg P e) us = V.int k a ∧ okV (V.int k a) := by
  obtain ⟨m, rfl, hw⟩ := tyOk_int hu h
  rw [ha]
  exact ⟨m, rfl, hw⟩
theorem ty_bool1 {P : Program} {e : TypeId} {n : Nat} {us : List V} (ha : isAgg P e = false) (hu : P.underlying e = some .bool) (h : TyOk P n e us) : ∃ a : Bool, pack (isAgg P e) us = B a ∧ okV (B a) := by
  obtain ⟨m, rfl⟩ := tyOk_bool hu h
  rw [ha]
  exact ⟨m, rfl, trivial⟩
theorem ty_str1 {P : Program} {e : TypeId} {n : Nat} {us : List V} (ha : isAgg P e = false) (hu : P.underlying e = some .string) (h : TyOk P n e us) : ∃ a : ByteArray, pack (isAgg P e) us = Sv a ∧ okV (Sv a) := by
  obtain ⟨m, rfl, hm⟩ := tyOk_str hu h
  rw [ha]
  exact ⟨m, rfl, hm⟩
theorem ty_slc1 {P : Program} {e : TypeId} {us : List V} {α : Type} {f : α → V} {sz : Nat} (ha : isAgg P e = false) (h : ∃ l : List α, us = [.slc false sz (l.map f)] ∧ l.length ≤ 9223372036854775807 ∧ okL (l.map f)) : ∃ l : List α, pack (isAgg P e) us = V.slc false sz (l.map f) ∧ okV (V.slc false sz (l.map f)) := by
  obtain ⟨l, rfl, h1, h2⟩ := h
  rw [ha]
  refine ⟨l, rfl, ?_, h2⟩
  rw [List.length_map]; exact h1
/-- an argument, as it lies in the world -/
theorem RowTr.one {W : World} {v : V} {c : Value} (h : RowTr W [v] [c]) : CellTr W v c := by
  have := h.2.2 0 (by simp)
  exact this
theorem RowTr.agg {W : World} {vs : List V} {cs : Array Value} (h : RowTr W vs cs.toList) : CellTr W (.agg vs) (.agg cs) := by
  refine .agg _ _ (by simpa using h.1) fun i hi => ?_
  have := h.2.2 i hi
  simpa [List.getD_eq_getElem?_getD, Array.getD_eq_getD_getElem?] using this
end Go.Ev
