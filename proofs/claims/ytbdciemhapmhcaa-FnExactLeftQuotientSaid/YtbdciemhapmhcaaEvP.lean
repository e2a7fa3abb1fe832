/- Programs of lines: what they do. Quotients: an automaton's answers moved by a word. Left quotients: another start state, by renaming. An argument that reads as data, as a tree. -/
import Derived.OpenShut
import Derived.ProofKit
import Derived.ChangeOld
import Derived.DataReads
import Derived.Test.YtbdciemhapmhcaaEvO
import Derived.Test.YtbdciemhapmhcaaEvN
import Derived.Test.YtbdciemhapmhcaaEvL
import Derived.Test.YtbdciemhapmhcaaEvM
set_option linter.unusedVariables false
set_option linter.unusedSimpArgs false
namespace Go.Ev
open Go
/-- letters alone -/
def Ltrs (s : ByteArray) : Prop := ∀ i : Nat, i < s.size → isLtr (bt s i) = true
theorem ltrs_word {s : ByteArray} (h : isWord s = true) : Ltrs s := by
  unfold isWord at h
  rw [Bool.and_eq_true] at h
  exact fun i hi => allB_get _ 0 (Nat.le_refl _) h.2 i (Nat.zero_le _) hi
theorem word_30 {s : ByteArray} (h : isWord s = true) : s.size ≤ 30 := by
  unfold isWord at h
  rw [Bool.and_eq_true] at h
  exact of_decide_eq_true h.1
theorem isLtr_abc {c : Int} (h : isLtr c = true) : c = 97 ∨ c = 98 ∨ c = 99 := by
  unfold isLtr ltr at h
  have := of_decide_eq_true h
  repeat' split at this
  all_goals omega
theorem bt_append_l (a b : ByteArray) {i : Nat} (h : i < a.size) : bt (a ++ b) (i : Int) = bt a (i : Int) := by
  have h2 : i < (a ++ b).size := by rw [ByteArray.size_append]; omega
  unfold bt
  simp only [Int.toNat_natCast, h, h2, dif_pos]
  rw [ByteArray.getElem_append_left]
theorem bt_append_r (a b : ByteArray) {i : Nat} (h : a.size ≤ i) (h' : i < (a ++ b).size) : bt (a ++ b) (i : Int) = bt b ((i - a.size : Nat) : Int) := by
  have h2 : i - a.size < b.size := by rw [ByteArray.size_append] at h'; omega
  unfold bt
  simp only [Int.toNat_natCast, h', h2, dif_pos]
  rw [ByteArray.getElem_append_right h]
theorem Ltrs.app {a b : ByteArray} (ha : Ltrs a) (hb : Ltrs b) : Ltrs (a ++ b) := by
  intro i hi
  by_cases k : i < a.size
  · rw [bt_append_l a b k]; exact ha i k
  · rw [bt_append_r a b (by omega) hi]
    exact hb _ (by rw [ByteArray.size_append] at hi; omega)
theorem Ltrs.nil : Ltrs ⟨#[]⟩ := fun i hi => absurd hi (Nat.not_lt_zero _)
theorem Ltrs.one {s : ByteArray} (h : Ltrs s) {i : Nat} (hi : i < s.size) : Ltrs (one s i) := by
  intro j hj
  rw [one_size s i hi] at hj
  obtain rfl : j = 0 := by omega
  have := bt_extract s i (i + 1) 0 (by omega) (by omega)
  unfold Go.Ev.one
  rw [this]
  exact h _ hi
/-- what stands for a byte -/
def imgM (m : Mor) (s : ByteArray) (i : Nat) : ByteArray := if bt s i = 97 then m.a else if bt s i = 98 then m.b else if bt s i = 99 then m.c else one s i
def appM (m : Mor) (s : ByteArray) : ByteArray := repl (imgM m s) s 0 ⟨#[]⟩
theorem appM_le (m : Mor) (s : ByteArray) : (appM m s).size ≤ 1048576 := repl_le _ _ _ 0 _ (Nat.le_refl _) (by decide)
theorem repl_ltrs {by_ : Nat → ByteArray} {s : ByteArray} (hb : ∀ i, i < s.size → Ltrs (by_ i)) : ∀ (n i : Nat) (out : ByteArray), s.size - i ≤ n → Ltrs out → Ltrs (repl by_ s i out) := by
  intro n
  induction n with
  | zero => intro i out h ho; rw [repl_end (by omega)]; exact ho
  | succ n ih =>
    intro i out h ho
    by_cases k : i < s.size
    · rw [repl_next k]
      split
      · exact Ltrs.nil
      · exact ih _ _ (by omega) (ho.app (hb i k))
    · rw [repl_end k]; exact ho
theorem small_ltrs {s : ByteArray} (h : small s = true) : Ltrs s ∧ s.size ≤ 3 := by
  unfold small at h
  rw [Bool.and_eq_true] at h
  exact ⟨ltrs_word h.1, of_decide_eq_true h.2⟩
theorem isMor_ltrs {m : Mor} (h : isMor m = true) : (Ltrs m.a ∧ m.a.size ≤ 3) ∧ (Ltrs m.b ∧ m.b.size ≤ 3) ∧ (Ltrs m.c ∧ m.c.size ≤ 3) := by
  unfold isMor at h
  rw [Bool.and_eq_true, Bool.and_eq_true] at h
  exact ⟨small_ltrs h.1, small_ltrs h.2.1, small_ltrs h.2.2⟩
theorem appM_ltrs {m : Mor} (hm : isMor m = true) {s : ByteArray} (h : Ltrs s) : Ltrs (appM m s) := by
  obtain ⟨⟨ha, _⟩, ⟨hb, _⟩, ⟨hc, _⟩⟩ := isMor_ltrs hm
  refine repl_ltrs (fun i hi => ?_) _ 0 _ (Nat.le_refl _) Ltrs.nil
  unfold imgM
  split
  · exact ha
  split
  · exact hb
  split
  · exact hc
  exact h.one hi
/-- the state behind the rest of a string -/
def nxL (t : Nat × Nat × Nat) (c : Int) : Nat := if c = 97 then t.1 else if c = 98 then t.2.1 else t.2.2
def walk (d : DN) (s : ByteArray) (q i : Nat) : Nat := if i < s.size then walk d s (nxL (d.nx q) (bt s i)) (i + 1) else q
  termination_by s.size - i
theorem walk_next {d : DN} {s : ByteArray} {q i : Nat} (h : i < s.size) : walk d s q i = walk d s (nxL (d.nx q) (bt s i)) (i + 1) := by rw [walk, if_pos h]
theorem walk_end {d : DN} {s : ByteArray} {q i : Nat} (h : ¬ i < s.size) : walk d s q i = q := by rw [walk, if_neg h]
theorem nxL_lt {d : DN} (ho : d.ok) {q : Nat} (h : q < d.accept.length) (c : Int) : nxL (d.nx q) c < d.accept.length := by
  obtain ⟨h1, h2, h3⟩ := DN.nx_lt ho h
  unfold nxL
  split
  · exact h1
  split
  · exact h2
  · exact h3
theorem walk_lt {d : DN} (ho : d.ok) (s : ByteArray) : ∀ (n q i : Nat), s.size - i ≤ n → q < d.accept.length → walk d s q i < d.accept.length := by
  intro n
  induction n with
  | zero => intro q i h hq; rw [walk_end (by omega)]; exact hq
  | succ n ih =>
    intro q i h hq
    by_cases k : i < s.size
    · rw [walk_next k]; exact ih _ _ (by omega) (nxL_lt ho hq _)
    · rw [walk_end k]; exact hq
def accD (d : DN) (s : ByteArray) : Bool := d.accept.getD (walk d s 0 0) false
end Go.Ev
namespace Go.Ev
open Go
/-- an expression's text -/
def opT (k : Int) (s : ByteArray) : List ByteArray → ByteArray
  | [] => if k = 1 then ⟨#[48]⟩ else if k = 2 then ⟨#[49]⟩ else if k = 3 then s else ⟨#[46]⟩
  | [a] => (if k = 8 then ⟨#[42]⟩ else ⟨#[33]⟩) ++ a
  | a :: b :: _ => ((⟨#[40]⟩ ++ a) ++ (if k = 6 then ⟨#[124]⟩ else if k = 7 then ⟨#[38]⟩ else ⟨#[]⟩)) ++ b ++ ⟨#[41]⟩
def textR (r : Rx) : ByteArray := opT r.kind r.letter (r.args.attach.map fun x => textR x.1)
  termination_by SizeOf.sizeOf r
  decreasing_by exact Rx.lt _ x.2
theorem textR_eq (r : Rx) : textR r = opT r.kind r.letter (r.args.map textR) := by rw [textR, List.attach_map_val (f := textR)]
theorem textR_le (r : Rx) (hg : r.good = true) : (textR r).size ≤ 3 * r.nodes := by
  obtain ⟨h1, h2⟩ := good_args hg
  have ih : ∀ x ∈ r.args, (textR x).size ≤ 3 * x.nodes := fun x hx => textR_le x (h1 x hx)
  rw [textR_eq, Rx.nodes_eq]
  rcases good_cases hg with ⟨k, ha⟩ | ⟨k, x, ha⟩ | ⟨k, x, y, ha⟩
  · rw [ha] at ih ⊢
    have hl : r.kind = 3 → r.letter.size = 1 := by
      intro k3
      unfold okTop at h2
      rw [if_pos k3, Bool.and_eq_true, Bool.and_eq_true] at h2
      exact of_decide_eq_true h2.2.1
    show (if r.kind = 1 then (⟨#[48]⟩ : ByteArray) else if r.kind = 2 then ⟨#[49]⟩ else if r.kind = 3 then r.letter else ⟨#[46]⟩).size ≤ 3
    split
    · decide
    split
    · decide
    split
    · rename_i k3; rw [hl k3]; decide
    · decide
  · have hx := ih x (by rw [ha]; exact List.mem_cons_self ..)
    rw [ha]
    show ((if r.kind = 8 then (⟨#[42]⟩ : ByteArray) else ⟨#[33]⟩) ++ textR x).size ≤ 3 * (1 + (x.nodes + 0))
    rw [ByteArray.size_append]
    have : (if r.kind = 8 then (⟨#[42]⟩ : ByteArray) else ⟨#[33]⟩).size = 1 := by split <;> rfl
    omega
  · have hx := ih x (by rw [ha]; exact List.mem_cons_self ..)
    have hy := ih y (by rw [ha]; exact List.mem_cons_of_mem _ (List.mem_cons_self ..))
    rw [ha]
    show (((⟨#[40]⟩ ++ textR x) ++ (if r.kind = 6 then (⟨#[124]⟩ : ByteArray) else if r.kind = 7 then ⟨#[38]⟩ else ⟨#[]⟩)) ++ textR y ++ (⟨#[41]⟩ : ByteArray)).size ≤ 3 * (1 + (x.nodes + (y.nodes + 0)))
    have e1 : (⟨#[40]⟩ : ByteArray).size = 1 := rfl
    have e2 : (⟨#[41]⟩ : ByteArray).size = 1 := rfl
    have e3 : (if r.kind = 6 then (⟨#[124]⟩ : ByteArray) else if r.kind = 7 then ⟨#[38]⟩ else ⟨#[]⟩).size ≤ 1 := by
      split
      · decide
      split <;> decide
    simp only [ByteArray.size_append]
    omega
  termination_by SizeOf.sizeOf r
  decreasing_by exact Rx.lt _ hx
def fmtR (r : Rx) : ByteArray := if validR r = true then textR r else ⟨#[]⟩
theorem fmtR_le (r : Rx) : (fmtR r).size ≤ 48 := by
  unfold fmtR
  split
  · rename_i h
    unfold validR at h
    rw [Bool.and_eq_true, Bool.and_eq_true] at h
    have := textR_le r h.2.2
    have := of_decide_eq_true h.1
    omega
  · decide
/-- a dash for nothing -/
def dash (s : ByteArray) : ByteArray := if s.size = 0 then ⟨#[45]⟩ else s
theorem dash_le (s : ByteArray) : (dash s).size ≤ s.size + 1 := by
  unfold dash
  split
  · have : (⟨#[45]⟩ : ByteArray).size = 1 := rfl
    omega
  · omega
end Go.Ev
namespace Go.Ev
open Go
/-- a valid automaton's numbers -/
def trip (r : List Int) : Nat × Nat × Nat := ((r.getD 0 0).toNat, (r.getD 1 0).toNat, (r.getD 2 0).toNat)
def Dfa.dn (x : Dfa) : DN := ⟨x.accept, x.next.map trip⟩
theorem rowOk_trip {n : Nat} {r : List Int} (h : rowOk n r = true) : r = [((trip r).1 : Int), (trip r).2.1, (trip r).2.2] ∧ (trip r).1 < n ∧ (trip r).2.1 < n ∧ (trip r).2.2 < n := by
  unfold rowOk at h
  rw [Bool.and_eq_true, List.all_eq_true] at h
  obtain ⟨h1, h2⟩ := h
  have h3 := eq_of_beq h1
  match r, h3, h2 with
  | [a, b, c], _, h2 =>
    have ha := h2 a (by simp)
    have hb := h2 b (by simp)
    have hc := h2 c (by simp)
    rw [Bool.and_eq_true, decide_eq_true_eq, decide_eq_true_eq] at ha hb hc
    unfold trip
    simp only [List.getD_cons_zero, List.getD_cons_succ]
    have ea : ((a.toNat : Nat) : Int) = a := Int.toNat_of_nonneg ha.1
    have eb : ((b.toNat : Nat) : Int) = b := Int.toNat_of_nonneg hb.1
    have ec : ((c.toNat : Nat) : Int) = c := Int.toNat_of_nonneg hc.1
    rw [ea, eb, ec]
    exact ⟨rfl, by omega, by omega, by omega⟩
  | [], h3, _ => simp at h3
  | [_], h3, _ => simp at h3
  | [_, _], h3, _ => simp at h3
  | _ :: _ :: _ :: _ :: _, h3, _ => simp at h3; omega
theorem validD_dn {x : Dfa} (h : validD x = true) : x = x.dn.dfa ∧ Val x.dn := by
  unfold validD at h
  rw [Bool.and_eq_true, Bool.and_eq_true, Bool.and_eq_true, decide_eq_true_eq, decide_eq_true_eq, List.all_eq_true] at h
  obtain ⟨⟨h1, h2⟩, h3, h4⟩ := h
  have h3 := eq_of_beq h3
  refine ⟨?_, ⟨?_, ?_⟩, ?_, ?_⟩
  · obtain ⟨A, N⟩ := x
    unfold Dfa.dn DN.dfa
    dsimp only at *
    rw [List.map_map]
    congr 1
    have : ∀ r ∈ N, id r = ((fun t : Nat × Nat × Nat => [(t.1 : Int), t.2.1, t.2.2]) ∘ trip) r := fun r hr => (rowOk_trip (h4 r hr)).1
    rw [← List.map_congr_left this, List.map_id]
  · unfold Dfa.dn
    dsimp only
    rw [List.length_map]
    omega
  · intro t ht
    unfold Dfa.dn at ht ⊢
    dsimp only at ht ⊢
    obtain ⟨r, hr, rfl⟩ := List.mem_map.1 ht
    exact (rowOk_trip (h4 r hr)).2
  · show 1 ≤ x.accept.length; omega
  · show x.accept.length ≤ 40; omega
/-- answers behind a word -/
def rqA (d : DN) (s : ByteArray) (q : Nat) : Bool := d.accept.getD (walk d s q 0) false
def rqD (d : DN) (s : ByteArray) : DN := ⟨(List.range d.accept.length).map (rqA d s), d.next⟩
theorem rqD_ok {d : DN} (h : d.ok) (s : ByteArray) : (rqD d s).ok := by
  unfold rqD DN.ok
  dsimp only
  rw [List.length_map, List.length_range]
  exact h
theorem rqD_len (d : DN) (s : ByteArray) : (rqD d s).accept.length = d.accept.length := by
  unfold rqD
  dsimp only
  rw [List.length_map, List.length_range]
def mixA (d : DN) (s : ByteArray) (i : Nat) : List Bool := (List.range d.accept.length).map fun q => if q < i then rqA d s q else d.accept.getD q false
theorem mixA_len (d : DN) (s : ByteArray) (i : Nat) : (mixA d s i).length = d.accept.length := by unfold mixA; rw [List.length_map, List.length_range]
theorem mixA_get (d : DN) (s : ByteArray) (i j : Nat) (h : j < (mixA d s i).length) : (mixA d s i)[j] = if j < i then rqA d s j else d.accept.getD j false := by
  simp only [mixA, List.getElem_map, List.getElem_range]
theorem mixA_0 (d : DN) (s : ByteArray) : mixA d s 0 = d.accept := by
  refine List.ext_getElem (mixA_len d s 0) fun j h h' => ?_
  rw [mixA_get, if_neg (Nat.not_lt_zero _), List.getD_eq_getElem?_getD, List.getElem?_eq_getElem h']
  rfl
theorem mixA_all (d : DN) (s : ByteArray) : mixA d s d.accept.length = (rqD d s).accept := by
  unfold mixA rqD
  refine List.map_congr_left fun q hq => ?_
  rw [if_pos (List.mem_range.1 hq)]
theorem mixA_set (d : DN) (s : ByteArray) {i : Nat} (_h : i < d.accept.length) : ((mixA d s i).map B).set i (B (rqA d s i)) = (mixA d s (i + 1)).map B := by
  rw [← List.map_set]
  refine congrArg (List.map B) (List.ext_getElem (by rw [List.length_set, mixA_len, mixA_len]) fun j h1 h2 => ?_)
  rw [List.getElem_set]
  rw [mixA_get, mixA_get]
  by_cases e : i = j
  · subst e
    rw [if_pos rfl, if_pos (Nat.lt_succ_self _)]
  · rw [if_neg e]
    by_cases k : j < i
    · rw [if_pos k, if_pos (by omega)]
    · rw [if_neg k, if_neg (by omega)]
theorem uMakes_acc (s : St) (d : Nat) {A : List Bool} (l : List V) (hA : A ≠ []) (h : s.b d = none) : uMakes s d [.uq 1 (A.map B), .slc true 1 l] = some ([.aref s.lv d A.length, .slc true 1 l], { s with b := upd s.b d (some (.arr false 1 (A.map B))) }) := by
  have e : uMakes s (d + 1) [.slc true 1 l] = some ([.slc true 1 l], s) := rfl
  unfold uMakes
  rw [e]
  dsimp only
  rw [uMake_acc s d A h]
  unfold rowT accO
  rw [if_neg (fun e => hA (List.eq_nil_of_length_eq_zero e)), if_neg hA]
  rfl
attribute [go_sem high] uMakes_acc
theorem peekC_aref (s : St) (n lv t k : Nat) : peekC s (n + 1) (.aref lv t k) = match s.ob lv t with
    | some (.arr _ sz l) => if l.length = k then some (.slc false sz l) else none
    | some (.dir sz l) => if l.length = k then (peekL (peekC s n) l).map (.slc false sz ·) else none
    | _ => none := rfl
theorem peekC_slc (s : St) (n : Nat) (b : Bool) (sz : Nat) (l : List V) : peekC s n (.slc b sz l) = some (.slc false sz l) := by
  cases n <;> cases b <;> rfl
theorem peekC_0 (s : St) (n : Nat) (i : Int) (k : IntKind) : peekC s n (.int k i) = some (.int k i) := by cases n <;> rfl
attribute [go_sem] peekC_aref peekC_slc peekC_0
theorem free_B (l : List Bool) : (l.map B).all V.free = true := by
  rw [List.all_eq_true]
  intro v hv
  obtain ⟨b, _, rfl⟩ := List.mem_map.1 hv
  simp [B, V.free]
theorem free_NU (l : List (Nat × Nat × Nat)) : (l.map NU).all V.free = true := by
  rw [List.all_eq_true]
  intro v hv
  obtain ⟨b, _, rfl⟩ := List.mem_map.1 hv
  unfold NU
  rw [free_uq]
  simp [V.free]
theorem free_bool (b : Bool) : (V.bool b).free = true := by rw [V.free]
theorem free_nil (n : Nat) : (V.slc false n []).free = true := by rw [V.free]
theorem flat_agg (l : List V) : (V.agg l).flatOk = (V.agg l).aggOk := rfl
theorem flat_tup (l : List V) : (V.tup l).flatOk = l.all V.aggOk := rfl
attribute [go_sem] free_uq free_agg free_tup free_B free_NU free_bool free_nil flat_agg flat_tup
attribute [go_sem] V.aggOk isCell
theorem ice_B (l : List Bool) : (l.map B).map V.ice = l.map B := by
  rw [List.map_map]
  exact List.map_congr_left fun b _ => by simp [B, V.ice]
theorem ice_I (l : List Int) : (l.map I).map V.ice = l.map I := by
  rw [List.map_map]
  exact List.map_congr_left fun b _ => by simp [I, V.ice]
theorem ice_UR (l : List (List Int)) : (l.map UR).map V.ice = l.map IL := by
  rw [List.map_map]
  refine List.map_congr_left fun r _ => ?_
  show V.ice (.uq 1 (r.map I)) = .slc false 1 (r.map I)
  rw [V.ice]
  simp
  intro a _
  simp [I, V.ice]
theorem ice_NU (l : List (Nat × Nat × Nat)) : (l.map NU).map V.ice = l.map NT := by
  rw [List.map_map]
  refine List.map_congr_left fun r _ => ?_
  show V.ice (.uq 1 _) = .slc false 1 _
  rw [V.ice]
  simp [V.ice]
attribute [go_sem] ice_B ice_I ice_UR ice_NU
/-- what a quotient returns -/
def rqR (x : Dfa) (s : ByteArray) : V := if validD x = true ∧ isWord s = true then .tup [(quotS (rqD x.dn s) 0).encD, .bool true] else .tup [.agg [.slc false 1 [], .slc false 1 []], .bool false]
end Go.Ev
namespace Go.Ev
open Go
set_option linter.unusedVariables false
/-- the first state and another change their names -/
def sw (q i : Nat) : Nat := if i = 0 then q else if i = q then 0 else i
theorem sw_sw (q i : Nat) : sw q (sw q i) = i := by
  unfold sw
  by_cases h : i = 0
  · subst h
    rw [if_pos rfl]
    by_cases hq : q = 0
    · rw [if_pos hq, hq]
    · rw [if_neg hq, if_pos rfl]
  · rw [if_neg h]
    by_cases hi : i = q
    · rw [if_pos hi, if_pos rfl, hi]
    · rw [if_neg hi, if_neg h, if_neg hi]
theorem sw_lt {q i n : Nat} (hq : q < n) (hi : i < n) : sw q i < n := by
  unfold sw
  split
  · exact hq
  split
  · omega
  · exact hi
theorem sw_inj {q x y : Nat} (h : sw q x = sw q y) : x = y := by rw [← sw_sw q x, h, sw_sw]
def sw3 (q : Nat) (t : Nat × Nat × Nat) : Nat × Nat × Nat := (sw q t.1, sw q t.2.1, sw q t.2.2)
theorem sw3_sw3 (q : Nat) (t : Nat × Nat × Nat) : sw3 q (sw3 q t) = t := by
  unfold sw3
  simp only [sw_sw]
def fromD (d : DN) (q : Nat) : DN := ⟨(List.range d.accept.length).map fun i => accN d (sw q i), (List.range d.accept.length).map fun i => sw3 q (d.nx (sw q i))⟩
theorem fromD_len (d : DN) (q : Nat) : (fromD d q).accept.length = d.accept.length := by
  show ((List.range _).map _).length = _
  rw [List.length_map, List.length_range]
theorem fromD_nlen (d : DN) (q : Nat) : (fromD d q).next.length = d.accept.length := by
  show ((List.range _).map _).length = _
  rw [List.length_map, List.length_range]
theorem fromD_ok {d : DN} (ho : d.ok) {q : Nat} (hq : q < d.accept.length) : (fromD d q).ok := by
  refine ⟨by rw [fromD_len, fromD_nlen], fun t ht => ?_⟩
  rw [fromD_len]
  obtain ⟨i, hi, rfl⟩ := List.mem_map.1 ht
  have h := DN.nx_lt ho (sw_lt hq (List.mem_range.1 hi))
  exact ⟨sw_lt hq h.1, sw_lt hq h.2.1, sw_lt hq h.2.2⟩
theorem fromD_acc (d : DN) (q : Nat) {i : Nat} (h : i < d.accept.length) : accN (fromD d q) i = accN d (sw q i) := by
  unfold accN fromD
  dsimp only
  rw [List.getD_eq_getElem?_getD, List.getElem?_map, List.getElem?_range h]
  rfl
theorem fromD_nx (d : DN) (q : Nat) {i : Nat} (h : i < d.accept.length) : (fromD d q).nx i = sw3 q (d.nx (sw q i)) := by
  unfold DN.nx fromD
  dsimp only
  rw [List.getD_eq_getElem?_getD, List.getElem?_map, List.getElem?_range h]
  rfl
theorem Ek_from {d : DN} (ho : d.ok) {q : Nat} (hq : q < d.accept.length) : ∀ k x y, x < d.accept.length → y < d.accept.length → (Ek (fromD d q) k x y ↔ Ek d k (sw q x) (sw q y)) := by
  intro k
  induction k with
  | zero =>
    intro x y hx hy
    show accN (fromD d q) x = accN (fromD d q) y ↔ accN d (sw q x) = accN d (sw q y)
    rw [fromD_acc d q hx, fromD_acc d q hy]
  | succ k ih =>
    intro x y hx hy
    have nx := DN.nx_lt ho (sw_lt hq hx)
    have ny := DN.nx_lt ho (sw_lt hq hy)
    show (Ek (fromD d q) k x y ∧ Ek (fromD d q) k ((fromD d q).nx x).1 ((fromD d q).nx y).1 ∧ Ek (fromD d q) k ((fromD d q).nx x).2.1 ((fromD d q).nx y).2.1 ∧ Ek (fromD d q) k ((fromD d q).nx x).2.2 ((fromD d q).nx y).2.2) ↔ (Ek d k (sw q x) (sw q y) ∧ Ek d k (d.nx (sw q x)).1 (d.nx (sw q y)).1 ∧ Ek d k (d.nx (sw q x)).2.1 (d.nx (sw q y)).2.1 ∧ Ek d k (d.nx (sw q x)).2.2 (d.nx (sw q y)).2.2)
    rw [fromD_nx d q hx, fromD_nx d q hy]
    unfold sw3
    dsimp only
    rw [ih x y hx hy, ih _ _ (sw_lt hq nx.1) (sw_lt hq ny.1), ih _ _ (sw_lt hq nx.2.1) (sw_lt hq ny.2.1), ih _ _ (sw_lt hq nx.2.2) (sw_lt hq ny.2.2)]
    simp only [sw_sw]
theorem order_from {d : DN} (ho : d.ok) {q : Nat} (hq : q < d.accept.length) : order d q = (order (fromD d q) 0).map (sw q) := by
  unfold order
  rw [fromD_len]
  have hf := fromD_ok ho hq
  have := bfs_map (f := sw q) (Q := fun x => x < d.accept.length) (fun x y _ _ h => sw_inj h) (g := (fromD d q).nx) (g' := d.nx) (fun x hx => by
    have := DN.nx_lt hf (q := x) (by rw [fromD_len]; exact hx)
    rw [fromD_len] at this
    exact this) (fun x hx => by
    rw [fromD_nx d q hx]
    unfold sw3
    simp only [sw_sw]) d.accept.length [0] 0 (fun x hx => by rw [List.mem_singleton.1 hx]; omega)
  exact this
theorem quotS_from {d : DN} (ho : d.ok) {q : Nat} (hq : q < d.accept.length) : quotS (fromD d q) 0 = quotS d q := by
  have hf := fromD_ok ho hq
  have h0 : 0 < (fromD d q).accept.length := by rw [fromD_len]; omega
  have hlt := (order_lt hf h0).2
  rw [fromD_len] at hlt
  generalize hc : cl (rounds d (d.accept.length + 1) (class0 d)) = c
  have hk : Kern (fromD d q) 0 (fun x => c (sw q x)) := by
    refine ⟨fun x y hx hy => ?_⟩
    have hx' := hlt x hx
    have hy' := hlt y hy
    rw [← hc, cl_inf ho (by omega) (sw_lt hq hx') (sw_lt hq hy')]
    constructor
    · intro h k; exact (Ek_from ho hq k x y hx' hy').2 (h k)
    · intro h k; exact (Ek_from ho hq k x y hx' hy').1 (h k)
  rw [← quotS_kern hf h0 hk]
  unfold quotS
  rw [hc]
  unfold quot
  rw [order_from ho hq]
  have hl : leadsB c ((order (fromD d q) 0).map (sw q)) = (leadsB (fun x => c (sw q x)) (order (fromD d q) 0)).map (sw q) := leadsF_map c (sw q) _ []
  rw [hl]
  have hm : ∀ x ∈ leadsB (fun x => c (sw q x)) (order (fromD d q) 0), x < d.accept.length := fun x hx => hlt x (leadsB_mem hx)
  generalize leadsB (fun x => c (sw q x)) (order (fromD d q) 0) = L at hm
  unfold ofQuot
  rw [List.map_map, List.map_map, List.map_map]
  show (⟨_, _⟩ : DN) = ⟨_, _⟩
  congr 1
  · exact List.map_congr_left fun x hx => fromD_acc d q (hm x hx)
  · refine List.map_congr_left fun x hx => ?_
    rw [fromD_nx d q (hm x hx)]
    show rowOf _ _ = rowOf _ _
    congr 1
    unfold c3 sw3
    simp only [sw_sw]
theorem fromD_val {d : DN} (h : Val d) {q : Nat} (hq : q < d.accept.length) : Val (fromD d q) := ⟨fromD_ok h.ok hq, by rw [fromD_len]; exact h.pos, by rw [fromD_len]; exact h.le⟩
/-- what a left quotient returns -/
def lqR (x : Dfa) (s : ByteArray) : V := if validD x = true ∧ isWord s = true then .tup [(quotS x.dn (walk x.dn s 0 0)).encD, .bool true] else .tup [.agg [.slc false 1 [], .slc false 1 []], .bool false]
end Go.Ev
namespace Go.Ev
open Go Go.RowKit
set_option linter.unusedVariables false
set_option linter.unusedSimpArgs false

/-- typed cells, as deep as the reading went -/
def TyOk (P : Program) : Nat → TypeId → List V → Prop
  | 0, _, _ => False
  | n + 1, t, vs => match P.underlying t with
    | some .bool => ∃ b, vs = [.bool b]
    | some (.int k) => ∃ m, vs = [.int k m] ∧ (Lit.int k m).wf = true
    | some .string => ∃ s, vs = [.str s] ∧ s.size ≤ maxLen
    | some (.slice e) => ∃ l, vs = [.slc false (P.cellsOf e) l] ∧ l.length ≤ maxLen ∧ ∀ x ∈ l, ∃ us, x = pack (isAgg P e) us ∧ TyOk P n e us ∧ us.length = P.cellsOf e
    | some (.struct fs) => vs.length = P.cellsOf t ∧ ∀ f ∈ fs.toList, TyOk P n f.type ((vs.drop f.offset).take (P.cellsOf f.type))
    | _ => False
/-- a struct's fields lie one behind the other -/
def tiles (P : Program) : Nat → List Field → Nat → Bool
  | n, [], m => n == m
  | n, f :: fs, m => f.offset == n && P.cellsOf f.type != 0 && tiles P (n + P.cellsOf f.type) fs m
def closedT (P : Program) (L : List TypeId) : Bool := L.all fun t => match P.underlying t with
  | some .bool | some (.int _) | some .string => P.cellsOf t == 1
  | some (.slice e) => P.cellsOf t == 1 && memN e L && P.cellsOf e != 0 && (isAgg P e || P.cellsOf e == 1)
  | some (.struct fs) => fs.toList.all (fun f => memN f.type L) && tiles P 0 fs.toList (P.cellsOf t)
  | _ => false

theorem memN_mem : ∀ {l : List Nat} {n : Nat}, memN n l = true → n ∈ l := by
  intro l
  induction l with
  | nil => intro n h; cases h
  | cons a l ih =>
    intro n h
    unfold memN at h
    split at h
    · rename_i e; subst e; exact List.mem_cons_self ..
    · exact List.mem_cons_of_mem _ (ih h)

abbrev CellTr (W : World) (v : V) (c : Value) : Prop := Tr (fun g j => W.cell? ⟨g, j, none⟩) (fun _ _ => none) v c
/-- a row of cells, read as trees -/
def RowTr (W : World) (vs : List V) (cs : List Value) : Prop := vs.length = cs.length ∧ vs.all pureC = true ∧ ∀ j, j < vs.length → CellTr W (vs.getD j .undef) (cs.getD j Go.undef)

theorem RowTr.append {W : World} {a b : List V} {c d : List Value} (h : RowTr W a c) (h' : RowTr W b d) : RowTr W (a ++ b) (c ++ d) := by
  obtain ⟨h1, h2, h3⟩ := h
  obtain ⟨k1, k2, k3⟩ := h'
  refine ⟨by simp [h1, k1], by simp [List.all_append, h2, k2], fun j hj => ?_⟩
  simp only [List.getD_eq_getElem?_getD] at h3 k3 ⊢
  by_cases hl : j < a.length
  · rw [List.getElem?_append_left hl, List.getElem?_append_left (by omega)]
    exact h3 j hl
  · rw [List.getElem?_append_right (by omega), List.getElem?_append_right (by omega), ← h1]
    simp only [List.length_append] at hj
    exact k3 _ (by omega)

theorem tile_row {P : Program} {W : World} {Q : Field → List V → Prop} {m : Nat} {cs : List Value} (hm : cs.length = m) : ∀ (fs : List Field) (n : Nat), tiles P n fs m = true → n ≤ m →
    (∀ f ∈ fs, ∃ us, Q f us ∧ us.length = P.cellsOf f.type ∧ RowTr W us ((cs.drop f.offset).take (P.cellsOf f.type))) →
    ∃ vs, n + vs.length = m ∧ RowTr W vs (cs.drop n) ∧ ∀ f ∈ fs, n ≤ f.offset ∧ Q f ((vs.drop (f.offset - n)).take (P.cellsOf f.type)) := by
  intro fs
  induction fs with
  | nil =>
    intro n ht hn _
    have : n = m := by simpa [tiles] using ht
    subst this
    refine ⟨[], rfl, ?_, fun f hf => by cases hf⟩
    rw [List.drop_eq_nil_of_le (by omega)]
    exact ⟨rfl, rfl, fun j hj => by cases hj⟩
  | cons f fs ih =>
    intro n ht hn h
    simp only [tiles, Bool.and_eq_true, beq_iff_eq] at ht
    obtain ⟨⟨ho, h0⟩, ht⟩ := ht
    obtain ⟨us, hq, hl, hr⟩ := h f (List.mem_cons_self ..)
    have hle : n + P.cellsOf f.type ≤ m := by
      have := hr.1
      rw [hl, List.length_take, List.length_drop, ho, hm] at this
      omega
    obtain ⟨vs, hv, hw, hf⟩ := ih _ ht hle (fun g hg => h g (List.mem_cons_of_mem _ hg))
    refine ⟨us ++ vs, by rw [List.length_append]; omega, ?_, ?_⟩
    · have : cs.drop n = (cs.drop n).take (P.cellsOf f.type) ++ cs.drop (n + P.cellsOf f.type) := by
        rw [← List.drop_drop, List.take_append_drop]
      rw [this]
      rw [ho] at hr
      exact hr.append hw
    · intro g hg
      rcases List.mem_cons.1 hg with rfl | hg
      · refine ⟨by omega, ?_⟩
        rw [ho, Nat.sub_self, List.drop_zero, ← hl, List.take_left]
        exact hq
      · obtain ⟨h1, h2⟩ := hf g hg
        refine ⟨by omega, ?_⟩
        have : (us ++ vs).drop (g.offset - n) = vs.drop (g.offset - (n + P.cellsOf f.type)) := by
          rw [List.drop_append]
          rw [List.drop_eq_nil_of_le (by omega), List.nil_append]
          congr 1
          omega
        rw [this]
        exact h2

theorem exists_rows {α : Type} {p : Nat → α → Prop} : ∀ n, (∀ i, i < n → ∃ a, p i a) → ∃ xs : List α, xs.length = n ∧ ∀ i a, xs[i]? = some a → p i a
  | 0, _ => ⟨[], rfl, fun i a h => by simp at h⟩
  | n + 1, h => by
    obtain ⟨xs, hl, hx⟩ := exists_rows n (fun i hi => h i (by omega))
    obtain ⟨a, ha⟩ := h n (by omega)
    refine ⟨xs ++ [a], by simp [hl], fun i b hb => ?_⟩
    by_cases hi : i < n
    · rw [List.getElem?_append_left (by omega)] at hb
      exact hx i b hb
    · have hlt : i < (xs ++ [a]).length := by
        rcases Nat.lt_or_ge i (xs ++ [a]).length with h1 | h1
        · exact h1
        · rw [List.getElem?_eq_none h1] at hb; cases hb
      have : i = n := by simp [hl] at hlt; omega
      subst this
      rw [List.getElem?_append_right (by omega)] at hb
      simp [hl] at hb
      exact hb ▸ ha

theorem pack_flat {b : Bool} {us : List V} (h : b = true ∨ us.length = 1) (hp : us.all pureC = true) : (pack b us).flat = us := by
  unfold pack
  split
  · rfl
  · rcases h with h | h
    · rename_i e; exact absurd h e
    · match us, h with
      | [u], _ =>
        simp only [List.all_cons, List.all_nil, Bool.and_true] at hp
        cases u <;> first | rfl | cases hp

section
variable {H : Type} {enc : TypeId × Value → H} {P : Program} {W : World} {sp : Nat → Bool} {L : List TypeId}
theorem trod_tr (hL : closedT P L = true) : ∀ (fuel : Nat) (t : TypeId) (cs : List Value) (x : DataW H × List MemPlace), t ∈ L → DataW.trod enc P W 0 sp true fuel t cs = some x →
    ∃ vs, TyOk P fuel t vs ∧ vs.length = P.cellsOf t ∧ RowTr W vs cs := by
  intro fuel
  induction fuel with
  | zero => intro t cs x _ h; simp [DataW.trod] at h
  | succ fuel ih =>
    intro t cs x ht hx
    have hc := List.all_eq_true.1 hL t ht
    have one : ∀ {v : V} {c : Value}, pureC v = true → CellTr W v c → RowTr W [v] [c] := by
      intro v c hp hv
      refine ⟨rfl, by simp [hp], fun j hj => ?_⟩
      have : j = 0 := by simpa using hj
      subst this
      exact hv
    simp only [TyOk]
    revert hc
    cases hu : P.underlying t with
    | none => intro hc; cases hc
    | some td =>
      cases td with
      | bool =>
        intro hc
        simp only [DataW.trod, hu] at hx
        dsimp only at hc ⊢
        have hcc : P.cellsOf t = 1 := by simpa using hc
        rcases cs with _ | ⟨c, _ | ⟨c2, cs⟩⟩
        · simp at hx
        · cases c <;> simp at hx
          rename_i b
          exact ⟨[.bool b], ⟨b, rfl⟩, hcc.symm, one rfl (.bool b)⟩
        · simp at hx
      | int k =>
        intro hc
        simp only [DataW.trod, hu] at hx
        dsimp only at hc ⊢
        have hcc : P.cellsOf t = 1 := by simpa using hc
        rcases cs with _ | ⟨c, _ | ⟨c2, cs⟩⟩
        · simp at hx
        · cases c <;> simp at hx
          rename_i k' n
          obtain ⟨⟨rfl, hw⟩, _⟩ := hx
          exact ⟨[.int k' n], ⟨n, rfl, hw⟩, hcc.symm, one rfl (.int k' n)⟩
        · simp at hx
      | string =>
        intro hc
        simp only [DataW.trod, hu] at hx
        dsimp only at hc ⊢
        have hcc : P.cellsOf t = 1 := by simpa using hc
        rcases cs with _ | ⟨c, _ | ⟨c2, cs⟩⟩
        · simp at hx
        · cases c <;> simp at hx
          rename_i s
          exact ⟨[.str s], ⟨s, rfl, hx.1⟩, hcc.symm, one rfl (.str s)⟩
        · simp at hx
      | struct fs =>
        intro hc
        simp only [DataW.trod, hu] at hx
        dsimp only at hc ⊢
        simp only [Bool.and_eq_true] at hc
        obtain ⟨hcl, hti⟩ := hc
        split at hx
        · rename_i hl
          simp only [Option.map_eq_some_iff] at hx
          obtain ⟨xs, hxs, _⟩ := hx
          have hall : ∀ f ∈ fs.toList, ∃ us, TyOk P fuel f.type us ∧ us.length = P.cellsOf f.type ∧ RowTr W us ((cs.drop f.offset).take (P.cellsOf f.type)) := by
            intro f hf
            obtain ⟨i, hi, hie⟩ := List.getElem_of_mem hf
            have h1 := mapM_some_get hxs i f (by rw [List.getElem?_eq_getElem hi, hie])
            have h2 := mapM_some_length hxs
            rw [List.getElem?_eq_getElem (by omega)] at h1
            exact ih _ _ _ (memN_mem (List.all_eq_true.1 hcl f hf)) h1
          obtain ⟨vs, h1, h2, h3⟩ := tile_row (Q := fun f us => TyOk P fuel f.type us) hl fs.toList 0 hti (Nat.zero_le _) hall
          refine ⟨vs, ⟨by omega, fun f hf => ?_⟩, by omega, by simpa using h2⟩
          have := (h3 f hf).2
          simpa using this
        · cases hx
      | slice e =>
        intro hc
        simp only [DataW.trod, hu] at hx
        dsimp only at hc ⊢
        simp only [Bool.and_eq_true, Bool.or_eq_true, beq_iff_eq, bne_iff_ne, ne_eq] at hc
        obtain ⟨⟨⟨hcc, heL⟩, hne⟩, hag⟩ := hc
        split at hx
        all_goals (try (exfalso; simp_all; done))
        all_goals (try (rename_i heq; simp at heq; done))
        · rename_i heq
          refine ⟨[.slc false (P.cellsOf e) []], ⟨[], rfl, Nat.zero_le _, fun x hx => by cases hx⟩, hcc.symm, one rfl (.slc0 ..)⟩
        · rename_i e' a len cap hu'
          have hee : e' = e := by simpa using hu'.symm
          subst hee
          split at hx
          · rename_i hb
            obtain ⟨_, hlc, hcm⟩ := hb
            simp only [Option.bind_eq_some_iff] at hx
            obtain ⟨elems, hel, _⟩ := hx
            have h2 : elems.length = len := by have := mapM_some_length hel; simpa using this
            have hall : ∀ i, i < len → ∃ us : List V, ∃ cs : List Value, W.cells? 0 (a.add (i * P.cellsOf e')) (P.cellsOf e') = some cs ∧ TyOk P fuel e' us ∧ us.length = P.cellsOf e' ∧ RowTr W us cs := by
              intro i hi
              have h1 := mapM_some_get hel i i (by simp [hi])
              rw [List.getElem?_eq_getElem (by omega)] at h1
              simp only [Option.bind_eq_some_iff] at h1
              obtain ⟨cs, hcs, hy⟩ := h1
              obtain ⟨us, h3, h4, h5⟩ := ih _ _ _ (memN_mem heL) hy
              exact ⟨us, cs, hcs, h3, h4, h5⟩
            obtain ⟨xs, hl, hxs⟩ := exists_rows len hall
            subst hl
            by_cases h0 : xs.length = 0
            · have : xs = [] := List.length_eq_zero_iff.1 h0
              subst this
              exact ⟨[.slc false (P.cellsOf e') []], ⟨[], rfl, Nat.zero_le _, fun x hx => by cases hx⟩, hcc.symm, one rfl (.slc0 ..)⟩
            · have hcell : ∀ i us, xs[i]? = some us → ∀ j, j < P.cellsOf e' → ∃ c, W.cell? ((a.add (i * P.cellsOf e')).add j) = some c ∧ CellTr W (us.getD j .undef) c := by
                intro i us hi j hj
                obtain ⟨cs, hcs, h3, h4, h5⟩ := hxs i us hi
                unfold World.cells? at hcs
                simp at hcs
                have h6 := mapM_some_length hcs
                have h1 := mapM_some_get hcs j j (by simp [hj])
                have hj' : j < cs.length := by simpa [h6] using hj
                rw [List.getElem?_eq_getElem hj'] at h1
                refine ⟨_, h1, ?_⟩
                have := h5.2.2 j (by omega)
                simpa [List.getD_eq_getElem?_getD, List.getElem?_eq_getElem hj'] using this
              have hspot : a.spot = none := by
                obtain ⟨us, hus⟩ : ∃ us, xs[0]? = some us := ⟨_, List.getElem?_eq_getElem (by omega)⟩
                obtain ⟨c, h1, _⟩ := hcell 0 us hus 0 (by omega)
                have := World.cell?_spot h1
                simpa [Addr.add] using this
              obtain ⟨ab, ao, asp⟩ := a
              dsimp only at hspot
              subst hspot
              have hadd : ∀ i j, (Addr.add (Addr.add ⟨ab, ao, none⟩ (i * P.cellsOf e')) j) = ⟨ab, ao + i * P.cellsOf e' + j, none⟩ := by
                intro i j
                unfold Addr.add
                split
                · rename_i hj; subst hj
                  split
                  · rename_i hi; simp [hi]
                  · rfl
                · split
                  · rename_i hi; simp [hi]
                  · rfl
              have hpk : ∀ us ∈ xs, us.length = P.cellsOf e' ∧ us.all pureC = true ∧ (pack (isAgg P e') us).flat = us := by
                intro us hus
                obtain ⟨i, hi, hie⟩ := List.getElem_of_mem hus
                obtain ⟨cs, hcs, h3, h4, h5⟩ := hxs i us (by rw [List.getElem?_eq_getElem hi, hie])
                refine ⟨h4, h5.2.1, pack_flat ?_ h5.2.1⟩
                rcases hag with h | h
                · exact .inl h
                · exact .inr (by omega)
              have hget : ∀ i (hi : i < xs.length), ((xs.map (pack (isAgg P e'))).getD i .undef).flat = xs[i] := by
                intro i hi
                simp only [List.getD_eq_getElem?_getD, List.getElem?_map, List.getElem?_eq_getElem hi, Option.map_some, Option.getD_some]
                exact (hpk _ (List.getElem_mem hi)).2.2
              refine ⟨[.slc false (P.cellsOf e') (xs.map (pack (isAgg P e')))], ⟨_, rfl, by simp only [List.length_map]; omega, ?_⟩, hcc.symm, ?_⟩
              · intro v hv
                obtain ⟨us, hus, rfl⟩ := List.mem_map.1 hv
                obtain ⟨i, hi, hie⟩ := List.getElem_of_mem hus
                obtain ⟨cs, hcs, h3, h4, h5⟩ := hxs i us (by rw [List.getElem?_eq_getElem hi, hie])
                exact ⟨us, rfl, h3, h4⟩
              · have hlen : (xs.map (pack (isAgg P e'))).length = xs.length := List.length_map ..
                have key := Tr.slc (S := fun g j => W.cell? ⟨g, j, none⟩) (β := fun _ _ => none) (P.cellsOf e') (xs.map (pack (isAgg P e'))) ab ao cap
                  (fun i j => (W.cell? ⟨ab, ao + i * P.cellsOf e' + j, none⟩).getD Go.undef) (by omega)
                  (by
                    intro v hv
                    obtain ⟨us, hus, rfl⟩ := List.mem_map.1 hv
                    obtain ⟨h1, h2, h3⟩ := hpk us hus
                    rw [h3]
                    exact ⟨h1, h2⟩)
                  (by
                    intro i j hi hj
                    rw [hlen] at hi
                    obtain ⟨c, h1, _⟩ := hcell i xs[i] (List.getElem?_eq_getElem hi) j hj
                    rw [hadd] at h1
                    rw [h1]
                    rfl)
                  (by
                    intro i j hi hj
                    rw [hlen] at hi
                    obtain ⟨c, h1, h2⟩ := hcell i xs[i] (List.getElem?_eq_getElem hi) j hj
                    rw [hadd] at h1
                    rw [h1, hget i hi]
                    exact h2)
                rw [hlen] at key
                exact one rfl key
          · cases hx
      | _ => intro hc; cases hc
end
/-! typed cells, laid open -/
def fieldsOf (P : Program) (t : TypeId) : Option (List (TypeId × Nat)) := match P.underlying t with
  | some (.struct fs) => some (fs.toList.map fun f => (f.type, f.offset))
  | _ => none
theorem tyOk_struct {P : Program} {t : TypeId} {n : Nat} {vs : List V} {L : List (TypeId × Nat)} (h0 : fieldsOf P t = some L) (h : TyOk P (n + 1) t vs) : vs.length = P.cellsOf t ∧ ∀ p ∈ L, TyOk P n p.1 ((vs.drop p.2).take (P.cellsOf p.1)) := by
  unfold fieldsOf at h0
  simp only [TyOk] at h
  split at h0
  · rename_i fs hu
    rw [hu] at h
    obtain rfl := Option.some.inj h0
    refine ⟨h.1, fun p hp => ?_⟩
    obtain ⟨f, hf, rfl⟩ := List.mem_map.1 hp
    exact h.2 f hf
  · cases h0
theorem tyOk_int {P : Program} {t : TypeId} {n : Nat} {vs : List V} {k : IntKind} (hu : P.underlying t = some (.int k)) (h : TyOk P n t vs) : ∃ m, vs = [.int k m] ∧ (Lit.int k m).wf = true := by
  cases n with
  | zero => cases h
  | succ n => simpa only [TyOk, hu] using h
theorem tyOk_bool {P : Program} {t : TypeId} {n : Nat} {vs : List V} (hu : P.underlying t = some .bool) (h : TyOk P n t vs) : ∃ m, vs = [.bool m] := by
  cases n with
  | zero => cases h
  | succ n => simpa only [TyOk, hu] using h
theorem tyOk_str {P : Program} {t : TypeId} {n : Nat} {vs : List V} (hu : P.underlying t = some .string) (h : TyOk P n t vs) : ∃ m : ByteArray, vs = [.str m] ∧ m.size ≤ 9223372036854775807 := by
  cases n with
  | zero => cases h
  | succ n =>
    simp only [TyOk, hu] at h
    exact h
theorem list_of {α : Type} {f : α → V} : ∀ {l : List V}, (∀ x ∈ l, ∃ a : α, x = f a ∧ okV (f a)) → ∃ as : List α, l = as.map f ∧ okL (as.map f) := by
  intro l
  induction l with
  | nil => intro _; exact ⟨[], rfl, trivial⟩
  | cons b l ih =>
    intro h
    obtain ⟨a, rfl, ha⟩ := h b (List.mem_cons_self ..)
    obtain ⟨as, rfl, hs⟩ := ih fun x hx => h x (List.mem_cons_of_mem _ hx)
    exact ⟨a :: as, rfl, ha, hs⟩
theorem tyOk_slc {P : Program} {t e : TypeId} {n : Nat} {vs : List V} {α : Type} {f : α → V} (hu : P.underlying t = some (.slice e)) (he : ∀ us, TyOk P n e us → ∃ a : α, pack (isAgg P e) us = f a ∧ okV (f a)) (h : TyOk P (n + 1) t vs) :
    ∃ l : List α, vs = [.slc false (P.cellsOf e) (l.map f)] ∧ l.length ≤ 9223372036854775807 ∧ okL (l.map f) := by
  simp only [TyOk, hu] at h
  obtain ⟨l, rfl, hl, hx⟩ := h
  obtain ⟨as, rfl, hs⟩ := list_of (f := f) (l := l) fun x hm => by
    obtain ⟨us, rfl, h1, _⟩ := hx x hm
    exact he us h1
  exact ⟨as, rfl, by rw [List.length_map] at hl; exact hl, hs⟩
theorem tyOk_slcR {P : Program} {t e : TypeId} {n : Nat} {vs : List V} {α : Type} {f : α → V} (hu : P.underlying t = some (.slice e)) (he : ∀ m, m < n → ∀ us, TyOk P m e us → ∃ a : α, pack (isAgg P e) us = f a ∧ okV (f a)) (h : TyOk P n t vs) :
    ∃ l : List α, vs = [.slc false (P.cellsOf e) (l.map f)] ∧ l.length ≤ 9223372036854775807 ∧ okL (l.map f) := by
  cases n with
  | zero => cases h
  | succ n => exact tyOk_slc hu (he n (Nat.lt_succ_self n)) h
theorem ty_agg {P : Program} {e : TypeId} {us : List V} {α : Type} {f : α → V} (ha : isAgg P e = true) (h : ∃ a : α, V.agg us = f a ∧ okV (f a)) : ∃ a : α, pack (isAgg P e) us = f a ∧ okV (f a) := by
  rw [ha]; exact h
theorem ty_int1 {P : Program} {e : TypeId} {n : Nat} {us : List V} {k : IntKind} (ha : isAgg P e = false) (hu : P.underlying e = some (.int k)) (h : TyOk P n e us) : ∃ a : Int, pack (isAgg P e) us = V.int k a ∧ okV (V.int k a) := by
  obtain ⟨m, rfl, hw⟩ := tyOk_int hu h
  rw [ha]
  exact ⟨m, rfl, hw⟩
theorem ty_bool1 {P : Program} {e : TypeId} {n : Nat} {us : List V} (ha : isAgg P e = false) (hu : P.underlying e = some .bool) (h : TyOk P n e us) : ∃ a : Bool, pack (isAgg P e) us = B a ∧ okV (B a) := by
  obtain ⟨m, rfl⟩ := tyOk_bool hu h
  rw [ha]
  exact ⟨m, rfl, trivial⟩
theorem ty_str1 {P : Program} {e : TypeId} {n : Nat} {us : List V} (ha : isAgg P e = false) (hu : P.underlying e = some .string) (h : TyOk P n e us) : ∃ a : ByteArray, pack (isAgg P e) us = Sv a ∧ okV (Sv a) := by
  obtain ⟨m, rfl, hm⟩ := tyOk_str hu h
  rw [ha]
  exact ⟨m, rfl, hm⟩
theorem ty_slc1 {P : Program} {e : TypeId} {us : List V} {α : Type} {f : α → V} {sz : Nat} (ha : isAgg P e = false) (h : ∃ l : List α, us = [.slc false sz (l.map f)] ∧ l.length ≤ 9223372036854775807 ∧ okL (l.map f)) : ∃ l : List α, pack (isAgg P e) us = V.slc false sz (l.map f) ∧ okV (V.slc false sz (l.map f)) := by
  obtain ⟨l, rfl, h1, h2⟩ := h
  rw [ha]
  refine ⟨l, rfl, ?_, h2⟩
  rw [List.length_map]; exact h1
/-- an argument, as it lies in the world -/
theorem RowTr.one {W : World} {v : V} {c : Value} (h : RowTr W [v] [c]) : CellTr W v c := by
  have := h.2.2 0 (by simp)
  exact this
theorem RowTr.agg {W : World} {vs : List V} {cs : Array Value} (h : RowTr W vs cs.toList) : CellTr W (.agg vs) (.agg cs) := by
  refine .agg _ _ (by simpa using h.1) fun i hi => ?_
  have := h.2.2 i hi
  simpa [List.getD_eq_getElem?_getD, Array.getD_eq_getD_getElem?] using this
end Go.Ev
