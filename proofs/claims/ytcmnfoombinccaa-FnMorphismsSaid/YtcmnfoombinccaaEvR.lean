/- Products, and what fits. Products, with pairs as numbers. Sets of states as numbers; their sorted lists. Joins and repetitions of automata, over sets as numbers. Joins and repetitions as the reference numbers them: states with a set and a mark. Complements. Automata of words. What an expression compiles to. Programs of lines: what they do. Quotients: an automaton's answers moved by a word. -/
import Derived.Test.YtcmnfoombinccaaEvQ
import Derived.Test.YtcmnfoombinccaaEvP
set_option linter.unusedVariables false
set_option linter.unusedSimpArgs false
namespace Go.Ev
open Go
set_option linter.unusedVariables false
theorem rowOf_lt {L : List Nat} {t : Nat × Nat × Nat} (h : in3 t L) : lt3 (rowOf L t) L.length := ⟨List.idxOf_lt_length_of_mem h.1, List.idxOf_lt_length_of_mem h.2.1, List.idxOf_lt_length_of_mem h.2.2⟩
theorem quot_ok {d : DN} (ho : d.ok) {s : Nat} (hs : s < d.accept.length) (c : Nat → Nat) : (quot d c s).ok ∧ 1 ≤ (quot d c s).accept.length := by
  have hX := order_clo ho hs
  have hst := order_start d s
  unfold quot ofQuot
  generalize hO : order d s = O at *
  have hm : ∀ y ∈ O, c y ∈ (leadsB c O).map c := fun y hy => leadsB_map.2 ⟨y, hy, rfl⟩
  refine ⟨⟨by simp, ?_⟩, ?_⟩
  · intro t ht
    obtain ⟨q, hq, rfl⟩ := List.mem_map.1 ht
    have hn := hX q (leadsB_mem hq)
    have := rowOf_lt (L := (leadsB c O).map c) (t := c3 c (d.nx q)) ⟨hm _ hn.1, hm _ hn.2.1, hm _ hn.2.2⟩
    simp only [List.length_map] at this ⊢
    exact this
  · simp only [List.length_map]
    obtain ⟨z, hz, _⟩ := leadsB_cov (c := c) hst
    exact List.length_pos_of_mem hz
theorem quotS_ok {d : DN} (ho : d.ok) {s : Nat} (hs : s < d.accept.length) : (quotS d s).ok ∧ 1 ≤ (quotS d s).accept.length := quot_ok ho hs _
theorem quotS_len {d : DN} (ho : d.ok) {s : Nat} (hs : s < d.accept.length) : (quotS d s).accept.length ≤ d.accept.length := by
  unfold quotS quot ofQuot
  simp only [List.length_map]
  exact Nat.le_trans (leadsB_len _ _) (order_len ho hs)
def fitD (d : DN) : Option DN := if (quotS d 0).accept.length ≤ 40 then some (quotS d 0) else none
/-- an automaton that is valid -/
structure Val (d : DN) : Prop where
  ok : d.ok
  pos : 1 ≤ d.accept.length
  le : d.accept.length ≤ 40
theorem fitD_val {d e : DN} (ho : d.ok) (h1 : 1 ≤ d.accept.length) (h : fitD d = some e) : Val e := by
  unfold fitD at h
  split at h
  · rename_i hl
    obtain rfl := Option.some.inj h
    exact ⟨(quotS_ok ho h1).1, (quotS_ok ho h1).2, hl⟩
  · cases h
def resO : Option DN → V
  | some d => .tup [d.enc, .bool true]
  | none => .tup [.agg [.slc false 1 [], .slc false 1 []], .bool false]
/-- the same, with rows of any length -/
def DN.dfa (d : DN) : Dfa := ⟨d.accept, d.next.map fun t => [(t.1 : Int), t.2.1, t.2.2]⟩
theorem DN.dfa_enc (d : DN) : d.dfa.enc = d.enc := by
  unfold DN.dfa Dfa.enc DN.enc
  rw [List.map_map]
  rfl
theorem validD_dfa {d : DN} (ho : d.ok) : validD d.dfa = (decide (1 ≤ d.accept.length) && decide (d.accept.length ≤ 40)) := by
  unfold validD DN.dfa
  have e1 : ((d.next.map fun t => [(t.1 : Int), t.2.1, t.2.2]).length : Int) == (d.accept.length : Int) := by rw [List.length_map, ho.1]; simp
  have e2 : (d.next.map fun t => [(t.1 : Int), t.2.1, t.2.2]).all (rowOk d.accept.length) = true := by
    rw [List.all_eq_true]
    intro r hr
    obtain ⟨t, ht, rfl⟩ := List.mem_map.1 hr
    obtain ⟨h1, h2, h3⟩ := ho.2 t ht
    unfold rowOk
    simp
    omega
  rw [e1, e2]
  have g1 : decide (1 ≤ (d.accept.length : Int)) = decide (1 ≤ d.accept.length) := by
    by_cases h : 1 ≤ d.accept.length
    · rw [decide_eq_true h, decide_eq_true (by omega)]
    · rw [decide_eq_false h, decide_eq_false (by omega)]
  have g2 : decide ((d.accept.length : Int) ≤ 40) = decide (d.accept.length ≤ 40) := by
    by_cases h : d.accept.length ≤ 40
    · rw [decide_eq_true h, decide_eq_true (by omega)]
    · rw [decide_eq_false h, decide_eq_false (by omega)]
  rw [g1, g2]
  simp
theorem Val.valid {d : DN} (h : Val d) : validD d.dfa = true := by
  rw [validD_dfa h.ok, decide_eq_true h.pos, decide_eq_true h.le]
  rfl
theorem dfa_row {d : DN} : ∀ r ∈ d.dfa.next, r.length ≤ 1048576 := by
  intro r hr
  obtain ⟨t, _, rfl⟩ := List.mem_map.1 hr
  show 3 ≤ _
  decide
def succP (a b : DN) (x : Nat × Nat) : (Nat × Nat) × (Nat × Nat) × (Nat × Nat) := (((a.nx x.1).1, (b.nx x.2).1), ((a.nx x.1).2.1, (b.nx x.2).2.1), ((a.nx x.1).2.2, (b.nx x.2).2.2))
def accP (kind : Int) (a b : DN) (x : Nat × Nat) : Bool := if kind = 6 then accN a x.1 || accN b x.2 else accN a x.1 && accN b x.2
def inP (a b : DN) (x : Nat × Nat) : Prop := x.1 < a.accept.length ∧ x.2 < b.accept.length
theorem succP_in {a b : DN} (ha : a.ok) (hb : b.ok) {x : Nat × Nat} (h : inP a b x) : inP a b (succP a b x).1 ∧ inP a b (succP a b x).2.1 ∧ inP a b (succP a b x).2.2 := by
  have h1 := DN.nx_lt ha h.1
  have h2 := DN.nx_lt hb h.2
  exact ⟨⟨h1.1, h2.1⟩, ⟨h1.2.1, h2.2.1⟩, ⟨h1.2.2, h2.2.2⟩⟩
def listP (a b : DN) : List (Nat × Nat) := expL (succP a b) 1600 (0, 0)
def prodD (kind : Int) (a b : DN) : DN := expD (succP a b) (accP kind a b) (listP a b)
section
variable {α : Type} [DecidableEq α]
theorem bfsA_lt {f : α → α × α × α} {Q : α → Prop} (hf : ∀ x, Q x → Q (f x).1 ∧ Q (f x).2.1 ∧ Q (f x).2.2) : ∀ (fu : Nat) (l : List α) (i : Nat), l.Nodup → (∀ x ∈ l, Q x) → (bfsL f fu l i).Nodup ∧ ∀ x ∈ bfsL f fu l i, Q x := by
  intro fu
  induction fu with
  | zero => intro l i h1 h2; exact ⟨h1, h2⟩
  | succ fu ih =>
    intro l i h1 h2
    by_cases hi : i < l.length
    · rw [bfs_step hi]
      have hq := hf _ (h2 _ (List.getElem_mem hi))
      refine ih _ _ (ins3_nodup h1) fun x hx => ?_
      rcases mem_ins3.1 hx with hx | rfl | rfl | rfl
      · exact h2 x hx
      · exact hq.1
      · exact hq.2.1
      · exact hq.2.2
    · rw [bfs_done hi]; exact ⟨h1, h2⟩
theorem bfsA_closed {f : α → α × α × α} {most : Nat} : ∀ (fu : Nat) (l : List α) (i : Nat), most < fu + i → (∀ k, (hk : k < l.length) → k < i → (f l[k]).1 ∈ l ∧ (f l[k]).2.1 ∈ l ∧ (f l[k]).2.2 ∈ l) → (bfsL f fu l i).length ≤ most → ∀ x ∈ bfsL f fu l i, (f x).1 ∈ bfsL f fu l i ∧ (f x).2.1 ∈ bfsL f fu l i ∧ (f x).2.2 ∈ bfsL f fu l i := by
  intro fu
  induction fu with
  | zero =>
    intro l i h1 h4 hl x hx
    obtain ⟨k, hk, rfl⟩ := List.getElem_of_mem (show x ∈ l from hx)
    have hl' : l.length ≤ most := hl
    exact h4 k hk (by omega)
  | succ fu ih =>
    intro l i h1 h4 hl
    by_cases hi : i < l.length
    rotate_left
    · rw [bfs_done hi]
      intro x hx
      obtain ⟨k, hk, rfl⟩ := List.getElem_of_mem hx
      exact h4 k hk (by omega)
    rw [bfs_step hi] at hl ⊢
    have hpre := ins3_pre l (f l[i])
    refine ih _ _ (by omega) ?_ hl
    intro k hk hki
    have hkl : k < l.length := by omega
    have e : (ins3 l (f l[i]))[k] = l[k] := by
      obtain ⟨m, hm⟩ := hpre
      simp only [← hm]
      exact List.getElem_append_left hkl
    rw [e]
    by_cases hk' : k < i
    · have := h4 k hkl hk'
      exact ⟨hpre.subset this.1, hpre.subset this.2.1, hpre.subset this.2.2⟩
    · obtain rfl : k = i := by omega
      exact ⟨mem_ins3.2 (.inr (.inl rfl)), mem_ins3.2 (.inr (.inr (.inl rfl))), mem_ins3.2 (.inr (.inr (.inr rfl)))⟩
theorem expL_closed {f : α → α × α × α} {most : Nat} {s : α} (h : (expL f most s).length ≤ most) : ∀ x ∈ expL f most s, (f x).1 ∈ expL f most s ∧ (f x).2.1 ∈ expL f most s ∧ (f x).2.2 ∈ expL f most s :=
  bfsA_closed (most := most) _ _ _ (by omega) (fun k hk h => by omega) h
theorem expD_ok {f : α → α × α × α} {acc : α → Bool} {most : Nat} {s : α} (h : (expL f most s).length ≤ most) : (expD f acc (expL f most s)).ok ∧ 1 ≤ (expD f acc (expL f most s)).accept.length ∧ (expD f acc (expL f most s)).accept.length ≤ most := by
  have hc := expL_closed h
  refine ⟨⟨by simp [expD], ?_⟩, ?_, by simpa [expD] using h⟩
  · intro t ht
    obtain ⟨x, hx, rfl⟩ := List.mem_map.1 ht
    have := hc x hx
    simp only [expD, List.length_map]
    exact ⟨ixD_lt this.1, ixD_lt this.2.1, ixD_lt this.2.2⟩
  · simp only [expD, List.length_map]
    exact Nat.le_trans (by simp) (bfs_pre f (most + 1) [s] 0).length_le
end
theorem pairs_le {l : List (Nat × Nat)} {n m : Nat} (hn : l.Nodup) (h : ∀ x ∈ l, x.1 < n ∧ x.2 < m) : l.length ≤ n * m := by
  have h1 : (l.map fun x => x.1 * m + x.2).Nodup := by
    rw [List.nodup_iff_pairwise_ne, List.pairwise_map]
    refine (List.nodup_iff_pairwise_ne.1 hn).imp_of_mem ?_
    intro x y hx hy hne e
    have hx2 := (h x hx).2
    have hy2 := (h y hy).2
    have hm : 0 < m := by omega
    have e1 : x.1 = y.1 := by
      have a1 : (x.1 * m + x.2) / m = x.1 := by rw [Nat.add_comm, Nat.add_mul_div_right _ _ hm, Nat.div_eq_of_lt hx2, Nat.zero_add]
      have a2 : (y.1 * m + y.2) / m = y.1 := by rw [Nat.add_comm, Nat.add_mul_div_right _ _ hm, Nat.div_eq_of_lt hy2, Nat.zero_add]
      rw [← a1, e, a2]
    apply hne
    rw [e1] at e
    exact Prod.ext e1 (by omega)
  have h2 := nodup_le h1 (n := n * m) (fun z hz => by
    obtain ⟨x, hx, rfl⟩ := List.mem_map.1 hz
    have := h x hx
    calc x.1 * m + x.2 < x.1 * m + m := by omega
      _ = (x.1 + 1) * m := by rw [Nat.succ_mul]
      _ ≤ n * m := Nat.mul_le_mul_right _ this.1)
  simpa using h2
theorem listP_le {a b : DN} (ha : Val a) (hb : Val b) : (listP a b).length ≤ 1600 := by
  have := bfsA_lt (f := succP a b) (Q := inP a b) (fun x hx => succP_in ha.ok hb.ok hx) 1601 [(0, 0)] 0 (by simp) (by
    intro x hx
    rw [List.mem_singleton.1 hx]
    exact ⟨ha.pos, hb.pos⟩)
  have h1 := pairs_le (n := a.accept.length) (m := b.accept.length) this.1 this.2
  have h2 : a.accept.length * b.accept.length ≤ 40 * 40 := Nat.mul_le_mul ha.le hb.le
  exact Nat.le_trans h1 h2
theorem prodD_ok {kind : Int} {a b : DN} (ha : Val a) (hb : Val b) : (prodD kind a b).ok ∧ 1 ≤ (prodD kind a b).accept.length ∧ (prodD kind a b).accept.length ≤ 1600 := expD_ok (listP_le ha hb)
end Go.Ev
namespace Go.Ev
open Go
set_option linter.unusedVariables false
section
variable {α β : Type} [DecidableEq α] [DecidableEq β]
theorem ins_map {f : α → β} {Q : α → Prop} (hf : ∀ x y, Q x → Q y → f x = f y → x = y) {l : List α} (hl : ∀ x ∈ l, Q x) {x : α} (hx : Q x) : ins (l.map f) (f x) = (ins l x).map f := by
  unfold ins
  by_cases h : x ∈ l
  · rw [if_pos h, if_pos (List.mem_map.2 ⟨x, h, rfl⟩)]
  · rw [if_neg h, if_neg, List.map_append]
    · rfl
    · intro hm
      obtain ⟨y, hy, e⟩ := List.mem_map.1 hm
      exact h (hf y x (hl y hy) hx e ▸ hy)
theorem ins3_map {f : α → β} {Q : α → Prop} (hf : ∀ x y, Q x → Q y → f x = f y → x = y) {l : List α} (hl : ∀ x ∈ l, Q x) {t : α × α × α} (h1 : Q t.1) (h2 : Q t.2.1) (h3 : Q t.2.2) : ins3 (l.map f) (f t.1, f t.2.1, f t.2.2) = (ins3 l t).map f := by
  have q1 : ∀ x ∈ ins l t.1, Q x := fun x hx => by rcases mem_ins.1 hx with h | rfl; exact hl x h; exact h1
  have q2 : ∀ x ∈ ins (ins l t.1) t.2.1, Q x := fun x hx => by rcases mem_ins.1 hx with h | rfl; exact q1 x h; exact h2
  unfold ins3
  rw [ins_map hf hl h1, ins_map hf q1 h2, ins_map hf q2 h3]
theorem bfs_map {f : α → β} {Q : α → Prop} (hf : ∀ x y, Q x → Q y → f x = f y → x = y) {g : α → α × α × α} {g' : β → β × β × β} (hQ : ∀ x, Q x → Q (g x).1 ∧ Q (g x).2.1 ∧ Q (g x).2.2) (hg : ∀ x, Q x → g' (f x) = (f (g x).1, f (g x).2.1, f (g x).2.2)) : ∀ (fu : Nat) (l : List α) (i : Nat), (∀ x ∈ l, Q x) → bfsL g' fu (l.map f) i = (bfsL g fu l i).map f := by
  intro fu
  induction fu with
  | zero => intro l i _; rfl
  | succ fu ih =>
    intro l i hl
    by_cases hi : i < l.length
    · have hx := hl _ (List.getElem_mem hi)
      have hq := hQ _ hx
      rw [bfs_step (by simpa using hi), bfs_step hi, List.getElem_map, hg _ hx, ins3_map hf hl hq.1 hq.2.1 hq.2.2]
      refine ih _ _ fun x hx => ?_
      rcases mem_ins3.1 hx with hx | rfl | rfl | rfl
      · exact hl x hx
      · exact hq.1
      · exact hq.2.1
      · exact hq.2.2
    · rw [bfs_done (by simpa using hi), bfs_done hi]
theorem ixD_map {f : α → β} {Q : α → Prop} (hf : ∀ x y, Q x → Q y → f x = f y → x = y) : ∀ {l : List α} {x : α}, (∀ y ∈ l, Q y) → Q x → ixD (l.map f) (f x) = ixD l x := by
  intro l
  induction l with
  | nil => intro x _ _; rfl
  | cons y l ih =>
    intro x hl hx
    have hy := hl y (List.mem_cons_self ..)
    have := ih (fun z hz => hl z (List.mem_cons_of_mem _ hz)) hx
    unfold ixD at this ⊢
    rw [List.map_cons, List.idxOf_cons, List.idxOf_cons, this]
    by_cases e : y = x
    · subst e; simp
    · have e' : ¬ f y = f x := fun h => e (hf y x hy hx h)
      rw [beq_eq_false_iff_ne.2 e, beq_eq_false_iff_ne.2 e']
end
def fP (b : DN) (x : Nat × Nat) : Nat := x.1 * b.accept.length + x.2
def succI (a b : DN) (x : Nat) : Nat × Nat × Nat := ((a.nx (x / b.accept.length)).1 * b.accept.length + (b.nx (x % b.accept.length)).1, (a.nx (x / b.accept.length)).2.1 * b.accept.length + (b.nx (x % b.accept.length)).2.1, (a.nx (x / b.accept.length)).2.2 * b.accept.length + (b.nx (x % b.accept.length)).2.2)
def accI (kind : Int) (a b : DN) (x : Nat) : Bool := if kind = 6 then accN a (x / b.accept.length) || accN b (x % b.accept.length) else accN a (x / b.accept.length) && accN b (x % b.accept.length)
theorem fP_div {a b : DN} {x : Nat × Nat} (h : inP a b x) : fP b x / b.accept.length = x.1 ∧ fP b x % b.accept.length = x.2 := by
  have hm : 0 < b.accept.length := by have := h.2; omega
  unfold fP
  constructor
  · rw [Nat.add_comm, Nat.add_mul_div_right _ _ hm, Nat.div_eq_of_lt h.2, Nat.zero_add]
  · rw [Nat.add_comm, Nat.add_mul_mod_self_right, Nat.mod_eq_of_lt h.2]
theorem fP_inj {a b : DN} (x y : Nat × Nat) (hx : inP a b x) (hy : inP a b y) (h : fP b x = fP b y) : x = y := by
  have h1 := fP_div hx
  have h2 := fP_div hy
  rw [h] at h1
  exact Prod.ext (h1.1.symm.trans h2.1) (h1.2.symm.trans h2.2)
theorem succI_f {a b : DN} (x : Nat × Nat) (hx : inP a b x) : succI a b (fP b x) = (fP b (succP a b x).1, fP b (succP a b x).2.1, fP b (succP a b x).2.2) := by
  unfold succI
  rw [(fP_div hx).1, (fP_div hx).2]
  rfl
def listI (a b : DN) : List Nat := bfsL (succI a b) 1601 [0] 0
theorem listP_in {a b : DN} (ha : Val a) (hb : Val b) : ∀ x ∈ listP a b, inP a b x :=
  (bfsA_lt (f := succP a b) (Q := inP a b) (fun x hx => succP_in ha.ok hb.ok hx) 1601 [(0, 0)] 0 (by simp) (by
    intro x hx
    rw [List.mem_singleton.1 hx]
    exact ⟨ha.pos, hb.pos⟩)).2
theorem listI_map {a b : DN} (ha : Val a) (hb : Val b) : listI a b = (listP a b).map (fP b) := by
  have := bfs_map (f := fP b) (Q := inP a b) fP_inj (g := succP a b) (g' := succI a b) (fun x hx => succP_in ha.ok hb.ok hx) (fun x hx => succI_f x hx) 1601 [(0, 0)] 0 (by
    intro x hx
    rw [List.mem_singleton.1 hx]
    exact ⟨ha.pos, hb.pos⟩)
  have e : [(0, 0)].map (fP b) = [0] := by simp [fP]
  rw [e] at this
  exact this
theorem prodI {a b : DN} (ha : Val a) (hb : Val b) (kind : Int) : (⟨(listI a b).map (accI kind a b), (listI a b).map fun x => rowD (listI a b) (succI a b x)⟩ : DN) = prodD kind a b := by
  have hin := listP_in ha hb
  have hc := expL_closed (f := succP a b) (most := 1600) (s := (0, 0)) (listP_le ha hb)
  have ec : expL (succP a b) 1600 (0, 0) = listP a b := rfl
  rw [ec] at hc
  unfold prodD expD
  rw [listI_map ha hb, List.map_map, List.map_map]
  congr 1
  · refine List.map_congr_left fun x hx => ?_
    show accI kind a b (fP b x) = _
    unfold accI accP
    rw [(fP_div (hin x hx)).1, (fP_div (hin x hx)).2]
  · refine List.map_congr_left fun x hx => ?_
    show rowD _ (succI a b (fP b x)) = _
    rw [succI_f x (hin x hx)]
    have h3 := hc x hx
    unfold rowD
    rw [ixD_map fP_inj hin (hin _ h3.1), ixD_map fP_inj hin (hin _ h3.2.1), ixD_map fP_inj hin (hin _ h3.2.2)]
theorem listI_le {a b : DN} (ha : Val a) (hb : Val b) : (listI a b).length ≤ 1600 := by
  rw [listI_map ha hb, List.length_map]
  exact listP_le ha hb
theorem listI_lt {a b : DN} (ha : Val a) (hb : Val b) : ∀ x ∈ listI a b, x / b.accept.length < a.accept.length ∧ x % b.accept.length < b.accept.length ∧ x < 1600 := by
  intro x hx
  rw [listI_map ha hb] at hx
  obtain ⟨y, hy, rfl⟩ := List.mem_map.1 hx
  have h := listP_in ha hb y hy
  rw [(fP_div h).1, (fP_div h).2]
  refine ⟨h.1, h.2, ?_⟩
  have h1 := h.1
  have h2 := h.2
  unfold fP
  have h3 : (y.1 + 1) * b.accept.length ≤ a.accept.length * b.accept.length := Nat.mul_le_mul_right _ h1
  have h4 : a.accept.length * b.accept.length ≤ 40 * 40 := Nat.mul_le_mul ha.le hb.le
  rw [Nat.succ_mul] at h3
  omega
theorem get3 (A : Nat × Nat × Nat) {j : Nat} (h : j < 3) (v : V) : ([.int .i64 (A.1 : Int), .int .i64 (A.2.1 : Int), .int .i64 (A.2.2 : Int)] : List V).getD j v = .int .i64 (((l3 A)[j]'(by rw [l3_len]; exact h) : Nat) : Int) := by
  match j, h with
  | 0, _ => rfl
  | 1, _ => rfl
  | 2, _ => rfl
end Go.Ev
namespace Go.Ev
open Go
set_option linter.unusedVariables false
def nx3 (t : Nat × Nat × Nat) (l : Nat) : Nat := (l3A t).getD l 0
theorem nx3_lt {t : Nat × Nat × Nat} {l n : Nat} (h : lt3 t n) (hl : l < 3) : nx3 t l < n := by
  match l, hl with
  | 0, _ => exact h.1
  | 1, _ => exact h.2.1
  | 2, _ => exact h.2.2
theorem nx3_get (t : Nat × Nat × Nat) {l : Nat} (hl : l < 3) (v : V) : [V.int .i64 (t.1 : Int), .int .i64 (t.2.1 : Int), .int .i64 (t.2.2 : Int)].getD l v = .int .i64 (nx3 t l : Nat) := by
  match l, hl with
  | 0, _ => rfl
  | 1, _ => rfl
  | 2, _ => rfl
def mvF (d : DN) (l S : Nat) (m q : Nat) : Nat := if S.testBit q = true then m ||| 2 ^ nx3 (d.nx q) l else m
def mvK (d : DN) (l S k : Nat) : Nat := (List.range k).foldl (mvF d l S) 0
def moveN (d : DN) (S l : Nat) : Nat := mvK d l S d.accept.length
theorem mvK_succ (d : DN) (l S k : Nat) : mvK d l S (k + 1) = mvF d l S (mvK d l S k) k := by
  unfold mvK
  rw [List.range_succ, List.foldl_append]
  rfl
theorem mvK_lt {d : DN} (ho : d.ok) {l : Nat} (hl : l < 3) (S : Nat) : ∀ k, k ≤ d.accept.length → mvK d l S k < 2 ^ d.accept.length := by
  intro k
  induction k with
  | zero => intro _; exact Nat.two_pow_pos _
  | succ k ih =>
    intro hk
    rw [mvK_succ]
    have := ih (by omega)
    unfold mvF
    by_cases h : S.testBit k = true
    · rw [if_pos h]
      exact Nat.or_lt_two_pow this (Nat.pow_lt_pow_right (by decide) (nx3_lt (nx_lt3 ho k (by omega)) hl))
    · rw [if_neg h]; exact this
theorem moveN_lt {d : DN} (ho : d.ok) {l : Nat} (hl : l < 3) (S : Nat) : moveN d S l < 2 ^ d.accept.length := mvK_lt ho hl S _ (Nat.le_refl _)
def anyN (d : DN) (S : Nat) : Bool := (List.range d.accept.length).any fun q => accN d q && S.testBit q
/-- the sorted list of a set -/
def bitsN (S : Nat) : List Nat := (List.range 40).filter fun q => S.testBit q
theorem bitsN_mem {S q : Nat} : q ∈ bitsN S ↔ q < 40 ∧ S.testBit q = true := by
  unfold bitsN
  rw [List.mem_filter, List.mem_range]
theorem bitsN_len (S : Nat) : (bitsN S).length ≤ 40 := by
  have := List.length_filter_le (fun q => S.testBit q) (List.range 40)
  rw [List.length_range] at this
  exact this
theorem bitsN_cut (S q : Nat) (hq : q < 40) : ∃ A C : List Nat, (∀ x ∈ A, x < q) ∧ (∀ x ∈ C, q < x) ∧ bitsN S = A ++ (if S.testBit q = true then [q] else []) ++ C ∧ bitsN (S ||| 2 ^ q) = A ++ q :: C := by
  have hr : List.range 40 = List.range q ++ q :: (List.range (39 - q)).map (fun x => x + (q + 1)) := by
    have h1 : 40 = q + (1 + (39 - q)) := by omega
    rw [h1, List.range_add, List.range_add, List.map_append]
    have e1 : q + (1 + (39 - q)) - 1 - q = 39 - q := by omega
    congr 1
    have e2 : List.range 1 = [0] := rfl
    rw [e2, List.map_cons, List.map_nil, List.singleton_append, Nat.add_zero, List.map_map]
    congr 1
    refine List.map_congr_left ?_
    intro x _
    show q + (1 + x) = x + (q + 1)
    omega
  refine ⟨(List.range q).filter fun x => S.testBit x, ((List.range (39 - q)).map (fun x => x + (q + 1))).filter fun x => S.testBit x, ?_, ?_, ?_, ?_⟩
  · intro x hx
    exact List.mem_range.1 (List.mem_filter.1 hx).1
  · intro x hx
    obtain ⟨y, _, e⟩ := List.mem_map.1 (List.mem_filter.1 hx).1
    omega
  · unfold bitsN
    rw [hr, List.filter_append, List.filter_cons]
    by_cases h : S.testBit q = true
    · rw [if_pos h, if_pos h, List.append_assoc, List.singleton_append]
    · rw [if_neg h, if_neg h, List.append_assoc, List.nil_append]
  · unfold bitsN
    have hb : ∀ x, x ≠ q → (S ||| 2 ^ q).testBit x = S.testBit x := by
      intro x hx
      rw [Nat.testBit_or, Nat.testBit_two_pow_of_ne (by omega), Bool.or_false]
    rw [hr, List.filter_append, List.filter_cons, if_pos (by rw [Nat.testBit_or, Nat.testBit_two_pow_self, Bool.or_true])]
    congr 1
    · refine List.filter_congr ?_
      intro x hx
      have := List.mem_range.1 hx
      rw [hb x (by omega)]
    · congr 1
      refine List.filter_congr ?_
      intro x hx
      obtain ⟨y, _, e⟩ := List.mem_map.1 hx
      rw [hb x (by omega)]
/-- the fold over the sorted list is the fold over the states -/
theorem foldl_if {α β : Type} (p : β → Bool) (f : α → β → α) : ∀ (l : List β) (a : α), (l.filter p).foldl f a = l.foldl (fun a x => if p x = true then f a x else a) a := by
  intro l
  induction l with
  | nil => intro a; rfl
  | cons x l ih =>
    intro a
    rw [List.filter_cons, List.foldl_cons]
    by_cases h : p x = true
    · rw [if_pos h, if_pos h, List.foldl_cons, ih]
    · rw [if_neg h, if_neg h, ih]
theorem foldl_id {α β : Type} (f : α → β → α) : ∀ (l : List β) (a : α), (∀ a, ∀ x ∈ l, f a x = a) → l.foldl f a = a := by
  intro l
  induction l with
  | nil => intro a _; rfl
  | cons x l ih =>
    intro a h
    rw [List.foldl_cons, h a x (List.mem_cons_self ..)]
    exact ih a fun a y hy => h a y (List.mem_cons_of_mem _ hy)
theorem bit_lt {S n q : Nat} (h : S < 2 ^ n) (hb : S.testBit q = true) : q < n := by
  by_cases hq : q < n
  · exact hq
  · have : S < 2 ^ q := Nat.lt_of_lt_of_le h (Nat.pow_le_pow_right (by decide) (by omega))
    rw [Nat.testBit_lt_two_pow this] at hb
    cases hb
theorem moveN_bits {d : DN} {S : Nat} (l : Nat) (hn : d.accept.length ≤ 40) (hS : S < 2 ^ d.accept.length) : (bitsN S).foldl (fun m q => m ||| 2 ^ nx3 (d.nx q) l) 0 = moveN d S l := by
  unfold bitsN moveN mvK
  rw [foldl_if]
  have h1 : 40 = d.accept.length + (40 - d.accept.length) := by omega
  rw [h1, List.range_add, List.foldl_append]
  refine foldl_id _ _ _ ?_
  intro a x hx
  obtain ⟨y, _, e⟩ := List.mem_map.1 hx
  by_cases hb : S.testBit x = true
  · have := bit_lt hS hb
    omega
  · simp [hb]
theorem anyN_bits {d : DN} {S : Nat} (hn : d.accept.length ≤ 40) (hS : S < 2 ^ d.accept.length) : (bitsN S).any (accN d) = anyN d S := by
  rw [Bool.eq_iff_iff]
  unfold anyN
  rw [List.any_eq_true, List.any_eq_true]
  constructor
  · rintro ⟨x, hx, ha⟩
    have := bitsN_mem.1 hx
    exact ⟨x, List.mem_range.2 (bit_lt hS this.2), by rw [ha, this.2]; rfl⟩
  · rintro ⟨x, hx, ha⟩
    have := List.mem_range.1 hx
    rw [Bool.and_eq_true] at ha
    exact ⟨x, bitsN_mem.2 ⟨by omega, ha.2⟩, ha.1⟩
theorem bitsN_inj {S T : Nat} (hS : S < 2 ^ 40) (hT : T < 2 ^ 40) (h : bitsN S = bitsN T) : S = T := by
  refine Nat.eq_of_testBit_eq ?_
  intro q
  by_cases hq : q < 40
  · have h1 := bitsN_mem (S := S) (q := q)
    have h2 := bitsN_mem (S := T) (q := q)
    rw [h] at h1
    rw [Bool.eq_iff_iff]
    constructor
    · intro hb; exact (h2.1 (h1.2 ⟨hq, hb⟩)).2
    · intro hb; exact (h1.1 (h2.2 ⟨hq, hb⟩)).2
  · rw [Nat.testBit_lt_two_pow (Nat.lt_of_lt_of_le hS (Nat.pow_le_pow_right (by decide) (by omega))), Nat.testBit_lt_two_pow (Nat.lt_of_lt_of_le hT (Nat.pow_le_pow_right (by decide) (by omega)))]
/- numbers of 64 bits -/
theorem fdiv_pow (S q : Nat) : ((S : Int).fdiv (2 ^ q)) = ((S / 2 ^ q : Nat) : Int) := by
  have e2 : (2 : Int) ^ q = ((2 ^ q : Nat) : Int) := by simp
  rw [e2, ← Int.ofNat_fdiv]
theorem bit_div (S q : Nat) : (S / 2 ^ q) % 2 = if S.testBit q = true then 1 else 0 := by
  rw [Nat.testBit_eq_decide_div_mod_eq]
  have := Nat.mod_two_eq_zero_or_one (S / 2 ^ q)
  rcases this with h | h <;> rw [h] <;> simp
theorem bv_and1 (n : Nat) : ((BitVec.ofInt 64 (n : Int) &&& BitVec.ofInt 64 1).toNat : Int) = ((n % 2 : Nat) : Int) := by
  have e : BitVec.ofInt 64 (n : Int) = BitVec.ofNat 64 n := BitVec.ofInt_natCast ..
  have e1 : (BitVec.ofInt 64 1) = 1#64 := rfl
  rw [e, e1, BitVec.toNat_and]
  have e3 : (1#64).toNat = 1 := rfl
  rw [e3, Nat.and_one_is_mod, BitVec.toNat_ofNat]
  omega
theorem bv_or (n m : Nat) (hn : n < 2 ^ 64) (hm : m < 2 ^ 64) : ((BitVec.ofInt 64 (n : Int) ||| BitVec.ofInt 64 (m : Int)).toNat : Int) = ((n ||| m : Nat) : Int) := by
  have e (k : Nat) : BitVec.ofInt 64 (k : Int) = BitVec.ofNat 64 k := BitVec.ofInt_natCast ..
  rw [e, e, BitVec.toNat_or, BitVec.toNat_ofNat, BitVec.toNat_ofNat, Nat.mod_eq_of_lt hn, Nat.mod_eq_of_lt hm]
theorem wrap_u64 (n : Nat) (h : n < 2 ^ 64) : IntKind.u64.wrap (n : Int) = (n : Int) := by
  show (n : Int) % 18446744073709551616 = n
  omega
theorem nneg (n : Nat) : ¬ (n : Int) < 0 := by omega
theorem u64_bit (S i : Nat) (hi : i < 64) : IntKind.u64.wrap ((@HAnd.hAnd (BitVec 64) (BitVec 64) (BitVec 64) (@instHAndOfAndOp (BitVec IntKind.u64.bits) (@BitVec.instAndOp IntKind.u64.bits)) (BitVec.ofInt 64 ((S : Int).fdiv (2 ^ min i 64))) (BitVec.ofInt 64 1)).toNat : Int) = if S.testBit i = true then 1 else 0 := by
  have e : min i 64 = i := by omega
  rw [e, fdiv_pow]
  refine (congrArg IntKind.u64.wrap (bv_and1 (S / 2 ^ i))).trans ?_
  rw [bit_div]
  by_cases h : S.testBit i = true
  · rw [if_pos h, if_pos h]; rfl
  · rw [if_neg h, if_neg h]; rfl
theorem u64_shl (i : Nat) (hi : i < 64) : IntKind.u64.wrap (1 * 2 ^ min i 64) = ((2 ^ i : Nat) : Int) := by
  have e : min i 64 = i := by omega
  have e2 : (2 : Int) ^ i = ((2 ^ i : Nat) : Int) := by simp
  rw [e, Int.one_mul, e2]
  exact wrap_u64 _ (Nat.pow_lt_pow_right (by decide) hi)
theorem u64_or (n m : Nat) (hn : n < 2 ^ 64) (hm : m < 2 ^ 64) : IntKind.u64.wrap ((@HOr.hOr (BitVec 64) (BitVec 64) (BitVec 64) (@instHOrOfOrOp (BitVec IntKind.u64.bits) (@BitVec.instOrOp IntKind.u64.bits)) (BitVec.ofInt 64 (n : Int)) (BitVec.ofInt 64 (m : Int))).toNat : Int) = ((n ||| m : Nat) : Int) := by
  refine (congrArg IntKind.u64.wrap (bv_or n m hn hm)).trans ?_
  exact wrap_u64 _ (Nat.or_lt_two_pow hn hm)
end Go.Ev
namespace Go.Ev
open Go
set_option linter.unusedVariables false
theorem u64_or1 (n : Nat) (hn : n < 2 ^ 64) : IntKind.u64.wrap ((@HOr.hOr (BitVec 64) (BitVec 64) (BitVec 64) (@instHOrOfOrOp (BitVec IntKind.u64.bits) (@BitVec.instOrOp IntKind.u64.bits)) (BitVec.ofInt 64 (n : Int)) (BitVec.ofInt 64 1)).toNat : Int) = ((n ||| 1 : Nat) : Int) := u64_or n 1 hn (by decide)
theorem or1_lt {S n : Nat} (hn : 1 ≤ n) (h : S < 2 ^ n) : S ||| 1 < 2 ^ n := Nat.or_lt_two_pow h (Nat.one_lt_two_pow (by omega))
theorem p64 {n : Nat} (h : n ≤ 40) {S : Nat} (hS : S < 2 ^ n) : S < 2 ^ 64 := Nat.lt_of_lt_of_le hS (Nat.pow_le_pow_right (by decide) (by omega))
def begC (a : DN) (x : Nat × Nat) : Nat × Nat := (x.1, if accN a x.1 = true then x.2 ||| 1 else x.2)
def succC (a b : DN) (x : Nat × Nat) : (Nat × Nat) × (Nat × Nat) × (Nat × Nat) := (begC a ((a.nx x.1).1, moveN b x.2 0), begC a ((a.nx x.1).2.1, moveN b x.2 1), begC a ((a.nx x.1).2.2, moveN b x.2 2))
def accC (b : DN) (x : Nat × Nat) : Bool := anyN b x.2
def inC (a b : DN) (x : Nat × Nat) : Prop := x.1 < a.accept.length ∧ x.2 < 2 ^ b.accept.length
theorem begC_in {a b : DN} (hb : Val b) {x : Nat × Nat} (h : inC a b x) : inC a b (begC a x) := by
  refine ⟨h.1, ?_⟩
  show (if accN a x.1 = true then x.2 ||| 1 else x.2) < _
  by_cases hc : accN a x.1 = true
  · rw [if_pos hc]; exact or1_lt hb.pos h.2
  · rw [if_neg hc]; exact h.2
theorem succC_in {a b : DN} (ha : Val a) (hb : Val b) {x : Nat × Nat} (h : inC a b x) : inC a b (succC a b x).1 ∧ inC a b (succC a b x).2.1 ∧ inC a b (succC a b x).2.2 := by
  have hn := nx_lt3 ha.ok x.1 h.1
  exact ⟨begC_in hb ⟨hn.1, moveN_lt hb.ok (by decide) _⟩, begC_in hb ⟨hn.2.1, moveN_lt hb.ok (by decide) _⟩, begC_in hb ⟨hn.2.2, moveN_lt hb.ok (by decide) _⟩⟩
theorem succC_get (a b : DN) (x : Nat × Nat) {i : Nat} (hi : i < 3) : (l3A (succC a b x))[i]'(by rw [l3A_len]; exact hi) = begC a (nx3 (a.nx x.1) i, moveN b x.2 i) := by
  match i, hi with
  | 0, _ => rfl
  | 1, _ => rfl
  | 2, _ => rfl
def listC2 (a b : DN) : List (Nat × Nat) := expL (succC a b) 400 (begC a (0, 0))
def concD (a b : DN) : Option DN := if (listC2 a b).length ≤ 400 then fitD (expD (succC a b) (accC b) (listC2 a b)) else none
/- repetition -/
def stp (d : DN) (M : Nat) : Nat := if anyN d M = true then M ||| 1 else M
def succT (d : DN) (x : Nat × Nat) : (Nat × Nat) × (Nat × Nat) × (Nat × Nat) := ((0, stp d (moveN d x.2 0)), (0, stp d (moveN d x.2 1)), (0, stp d (moveN d x.2 2)))
def accT (d : DN) (x : Nat × Nat) : Bool := x.1 == 1 || anyN d x.2
def inT (d : DN) (x : Nat × Nat) : Prop := x.1 < 2 ∧ x.2 < 2 ^ d.accept.length
theorem stp_lt {d : DN} (hd : Val d) {M : Nat} (h : M < 2 ^ d.accept.length) : stp d M < 2 ^ d.accept.length := by
  unfold stp
  by_cases hc : anyN d M = true
  · rw [if_pos hc]; exact or1_lt hd.pos h
  · rw [if_neg hc]; exact h
theorem succT_in {d : DN} (hd : Val d) {x : Nat × Nat} (h : inT d x) : inT d (succT d x).1 ∧ inT d (succT d x).2.1 ∧ inT d (succT d x).2.2 :=
  ⟨⟨by show 0 < 2; decide, stp_lt hd (moveN_lt hd.ok (by decide) _)⟩, ⟨by show 0 < 2; decide, stp_lt hd (moveN_lt hd.ok (by decide) _)⟩, ⟨by show 0 < 2; decide, stp_lt hd (moveN_lt hd.ok (by decide) _)⟩⟩
theorem succT_get (d : DN) (x : Nat × Nat) {i : Nat} (hi : i < 3) : (l3A (succT d x))[i]'(by rw [l3A_len]; exact hi) = (0, stp d (moveN d x.2 i)) := by
  match i, hi with
  | 0, _ => rfl
  | 1, _ => rfl
  | 2, _ => rfl
def listT (d : DN) : List (Nat × Nat) := expL (succT d) 400 (1, 1)
def starD (d : DN) : Option DN := if (listT d).length ≤ 400 then fitD (expD (succT d) (accT d) (listT d)) else none
end Go.Ev
namespace Go.Ev
open Go
set_option linter.unusedVariables false
section
variable {α β : Type} [DecidableEq α] [DecidableEq β]
theorem ixD_at {l : List α} {x : α} {i : Nat} (h : i < l.length) (hn : x ∉ l.take i) (e : l[i] = x) : ixD l x = i := by
  have hd : l = l.take i ++ x :: l.drop (i + 1) := by
    rw [← e, ← List.drop_eq_getElem_cons h, List.take_append_drop]
  unfold ixD
  rw [hd, List.idxOf_append, if_neg hn, List.idxOf_cons, beq_self_eq_true, cond_true, List.length_take]
  omega
theorem expD_map {f : α → β} {Q : α → Prop} (hf : ∀ x y, Q x → Q y → f x = f y → x = y) {g : α → α × α × α} {g' : β → β × β × β} {acc : α → Bool} {acc' : β → Bool} {L : List α} (hL : ∀ x ∈ L, Q x) (hQ : ∀ x, Q x → Q (g x).1 ∧ Q (g x).2.1 ∧ Q (g x).2.2) (hg : ∀ x, Q x → g' (f x) = (f (g x).1, f (g x).2.1, f (g x).2.2)) (ha : ∀ x, Q x → acc' (f x) = acc x) : expD g' acc' (L.map f) = expD g acc L := by
  unfold expD
  congr 1
  · rw [List.map_map]
    exact List.map_congr_left fun x hx => ha x (hL x hx)
  · rw [List.map_map]
    refine List.map_congr_left fun x hx => ?_
    have hx := hL x hx
    have hq := hQ x hx
    show rowD (L.map f) (g' (f x)) = rowD L (g x)
    rw [hg x hx]
    unfold rowD
    rw [ixD_map hf hL hq.1, ixD_map hf hL hq.2.1, ixD_map hf hL hq.2.2]
theorem expL_map {f : α → β} {Q : α → Prop} (hf : ∀ x y, Q x → Q y → f x = f y → x = y) {g : α → α × α × α} {g' : β → β × β × β} (hQ : ∀ x, Q x → Q (g x).1 ∧ Q (g x).2.1 ∧ Q (g x).2.2) (hg : ∀ x, Q x → g' (f x) = (f (g x).1, f (g x).2.1, f (g x).2.2)) (most : Nat) {s : α} (hs : Q s) : expL g' most (f s) = (expL g most s).map f :=
  bfs_map hf hQ hg (most + 1) [s] 0 (by simpa using hs)
theorem expL_Q {Q : α → Prop} {g : α → α × α × α} (hQ : ∀ x, Q x → Q (g x).1 ∧ Q (g x).2.1 ∧ Q (g x).2.2) (most : Nat) {s : α} (hs : Q s) : ∀ x ∈ expL g most s, Q x :=
  (bfsA_lt (f := g) (Q := Q) hQ (most + 1) [s] 0 (by simp) (by simpa using hs)).2
end
abbrev Tr3 := Nat × Nat × Bool
def enc3 (y : Tr3) : V := .agg [IN y.1, .slc false 1 ((bitsN y.2.1).map IN), B y.2.2]
def fC (x : Nat × Nat) : Tr3 := (x.1, x.2, false)
def succCr (a b : DN) (y : Tr3) : Tr3 × Tr3 × Tr3 := (fC (succC a b (y.1, y.2.1)).1, fC (succC a b (y.1, y.2.1)).2.1, fC (succC a b (y.1, y.2.1)).2.2)
def accCr (b : DN) (y : Tr3) : Bool := anyN b y.2.1
theorem fC_inj (x y : Nat × Nat) (h : fC x = fC y) : x = y := by
  have h1 : x.1 = y.1 := congrArg (fun z : Tr3 => z.1) h
  have h2 : x.2 = y.2 := congrArg (fun z : Tr3 => z.2.1) h
  exact Prod.ext h1 h2
theorem succCr_get (a b : DN) (y : Tr3) {i : Nat} (hi : i < 3) : (l3A (succCr a b y))[i]'(by rw [l3A_len]; exact hi) = fC (begC a (nx3 (a.nx y.1) i, moveN b y.2.1 i)) := by
  match i, hi with
  | 0, _ => rfl
  | 1, _ => rfl
  | 2, _ => rfl
def listCr (a b : DN) : List Tr3 := expL (succCr a b) 400 (fC (begC a (0, 0)))
theorem listCr_map {a b : DN} (ha : Val a) (hb : Val b) : listCr a b = (listC2 a b).map fC :=
  expL_map (Q := inC a b) (fun x y _ _ h => fC_inj x y h) (fun x hx => succC_in ha hb hx) (fun x hx => rfl) 400 (begC_in hb ⟨ha.pos, Nat.two_pow_pos _⟩)
theorem expCr {a b : DN} (ha : Val a) (hb : Val b) : expD (succCr a b) (accCr b) (listCr a b) = expD (succC a b) (accC b) (listC2 a b) := by
  rw [listCr_map ha hb]
  exact expD_map (Q := inC a b) (fun x y _ _ h => fC_inj x y h) (expL_Q (fun x hx => succC_in ha hb hx) 400 (begC_in hb ⟨ha.pos, Nat.two_pow_pos _⟩)) (fun x hx => succC_in ha hb hx) (fun x hx => rfl) (fun x hx => rfl)
theorem concD_r {a b : DN} (ha : Val a) (hb : Val b) : concD a b = if (listCr a b).length ≤ 400 then fitD (expD (succCr a b) (accCr b) (listCr a b)) else none := by
  rw [expCr ha hb]
  unfold concD
  rw [listCr_map ha hb, List.length_map]
def inCr (a b : DN) (y : Tr3) : Prop := y.1 < a.accept.length ∧ y.2.1 < 2 ^ b.accept.length
theorem succCr_in {a b : DN} (ha : Val a) (hb : Val b) (y : Tr3) (h : inCr a b y) : inCr a b (succCr a b y).1 ∧ inCr a b (succCr a b y).2.1 ∧ inCr a b (succCr a b y).2.2 := succC_in (x := (y.1, y.2.1)) ha hb h
/- repetition -/
def fT (x : Nat × Nat) : Tr3 := (0, x.2, x.1 == 1)
def succTr (d : DN) (y : Tr3) : Tr3 × Tr3 × Tr3 := ((0, stp d (moveN d y.2.1 0), false), (0, stp d (moveN d y.2.1 1), false), (0, stp d (moveN d y.2.1 2), false))
def accTr (d : DN) (y : Tr3) : Bool := y.2.2 || anyN d y.2.1
theorem fT_inj {d : DN} (x y : Nat × Nat) (hx : inT d x) (hy : inT d y) (h : fT x = fT y) : x = y := by
  have h1 : (x.1 == 1) = (y.1 == 1) := congrArg (fun z : Tr3 => z.2.2) h
  have h2 : x.2 = y.2 := congrArg (fun z : Tr3 => z.2.1) h
  have a1 := hx.1
  have a2 := hy.1
  refine Prod.ext ?_ h2
  rw [Bool.eq_iff_iff, beq_iff_eq, beq_iff_eq] at h1
  omega
theorem succTr_get (d : DN) (y : Tr3) {i : Nat} (hi : i < 3) : (l3A (succTr d y))[i]'(by rw [l3A_len]; exact hi) = (0, stp d (moveN d y.2.1 i), false) := by
  match i, hi with
  | 0, _ => rfl
  | 1, _ => rfl
  | 2, _ => rfl
def listTr (d : DN) : List Tr3 := expL (succTr d) 400 (0, 1, true)
theorem inT_1 {d : DN} (hd : Val d) : inT d (1, 1) := ⟨by show 1 < 2; decide, Nat.one_lt_two_pow (by have := hd.pos; omega)⟩
theorem listTr_map {d : DN} (hd : Val d) : listTr d = (listT d).map fT := by
  have e : ((0, 1, true) : Tr3) = fT (1, 1) := rfl
  unfold listTr listT
  rw [e]
  exact expL_map (Q := inT d) (f := fT) fT_inj (fun x hx => succT_in hd hx) (fun x hx => rfl) 400 (inT_1 hd)
theorem expTr {d : DN} (hd : Val d) : expD (succTr d) (accTr d) (listTr d) = expD (succT d) (accT d) (listT d) := by
  rw [listTr_map hd]
  exact expD_map (Q := inT d) (f := fT) fT_inj (by unfold listT; exact expL_Q (fun x hx => succT_in hd hx) 400 (inT_1 hd)) (fun x hx => succT_in hd hx) (fun x hx => rfl) (fun x hx => rfl)
theorem starD_r {d : DN} (hd : Val d) : starD d = if (listTr d).length ≤ 400 then fitD (expD (succTr d) (accTr d) (listTr d)) else none := by
  rw [expTr hd]
  unfold starD
  rw [listTr_map hd, List.length_map]
def inTr (d : DN) (y : Tr3) : Prop := y.2.1 < 2 ^ d.accept.length
theorem succTr_in {d : DN} (hd : Val d) (y : Tr3) (h : inTr d y) : inTr d (succTr d y).1 ∧ inTr d (succTr d y).2.1 ∧ inTr d (succTr d y).2.2 :=
  ⟨stp_lt hd (moveN_lt hd.ok (by decide) _), stp_lt hd (moveN_lt hd.ok (by decide) _), stp_lt hd (moveN_lt hd.ok (by decide) _)⟩
end Go.Ev
namespace Go.Ev
open Go
set_option linter.unusedVariables false
def cplD (d : DN) : DN := ⟨d.accept.map (!·), d.next⟩
theorem cplD_ok {d : DN} (h : d.ok) : (cplD d).ok := by
  refine ⟨by simp [cplD, h.1], ?_⟩
  intro t ht
  have := h.2 t ht
  simpa [cplD] using this
theorem accN_cpl {d : DN} {q : Nat} (h : q < d.accept.length) : accN (cplD d) q = !accN d q := by
  unfold accN cplD
  rw [List.getD_eq_getElem?_getD, List.getD_eq_getElem?_getD, List.getElem?_map, List.getElem?_eq_getElem h]
  rfl
theorem Ek_cpl {d : DN} (ho : d.ok) : ∀ k p q, p < d.accept.length → q < d.accept.length → (Ek (cplD d) k p q ↔ Ek d k p q) := by
  intro k
  induction k with
  | zero =>
    intro p q hp hq
    show accN (cplD d) p = accN (cplD d) q ↔ accN d p = accN d q
    rw [accN_cpl hp, accN_cpl hq]
    cases accN d p <;> cases accN d q <;> simp
  | succ k ih =>
    intro p q hp hq
    have np := DN.nx_lt ho hp
    have nq := DN.nx_lt ho hq
    show (Ek (cplD d) k p q ∧ Ek (cplD d) k (d.nx p).1 (d.nx q).1 ∧ Ek (cplD d) k (d.nx p).2.1 (d.nx q).2.1 ∧ Ek (cplD d) k (d.nx p).2.2 (d.nx q).2.2) ↔ _
    rw [ih p q hp hq, ih _ _ np.1 nq.1, ih _ _ np.2.1 nq.2.1, ih _ _ np.2.2 nq.2.2]
    rfl
theorem order_cpl (d : DN) (s : Nat) : order (cplD d) s = order d s := by
  unfold order
  have : (cplD d).accept.length = d.accept.length := by simp [cplD]
  rw [this]
  rfl
theorem quotS_cpl {d : DN} (ho : d.ok) {s : Nat} (hs : s < d.accept.length) : quotS (cplD d) s = cplD (quotS d s) := by
  have hlt := (order_lt ho hs).2
  have hk : Kern (cplD d) s (cl (rounds d (d.accept.length + 1) (class0 d))) := by
    refine ⟨fun x y hx hy => ?_⟩
    rw [order_cpl] at hx hy
    rw [cl_inf ho (by omega) (hlt x hx) (hlt y hy)]
    constructor
    · intro h k; exact (Ek_cpl ho k x y (hlt x hx) (hlt y hy)).2 (h k)
    · intro h k; exact (Ek_cpl ho k x y (hlt x hx) (hlt y hy)).1 (h k)
  have hl : (cplD d).accept.length = d.accept.length := by simp [cplD]
  rw [← quotS_kern (cplD_ok ho) (by rw [hl]; exact hs) hk]
  unfold quotS quot
  rw [order_cpl]
  generalize cl (rounds d (d.accept.length + 1) (class0 d)) = c
  have hm : ∀ x ∈ leadsB c (order d s), x < d.accept.length := fun x hx => hlt x (leadsB_mem hx)
  generalize leadsB c (order d s) = LS at hm
  unfold ofQuot
  show (⟨_, _⟩ : DN) = ⟨_, _⟩
  congr 1
  dsimp only
  rw [List.map_map]
  exact List.map_congr_left fun x hx => accN_cpl (hm x hx)
theorem cplD_val {d : DN} (h : Val d) : Val (cplD d) := ⟨cplD_ok h.ok, by have := h.pos; simpa [cplD] using this, by have := h.le; simpa [cplD] using this⟩
theorem quotS_val {d : DN} (h : Val d) {s : Nat} (hs : s < d.accept.length) : Val (quotS d s) := ⟨(quotS_ok h.ok hs).1, (quotS_ok h.ok hs).2, Nat.le_trans (quotS_len h.ok hs) h.le⟩
/-- what stands where some are turned already -/
def turnB (l : List Bool) (i : Nat) : List V := ((l.take i).map fun b => B (!b)) ++ (l.drop i).map B
theorem turnB_0 (l : List Bool) : turnB l 0 = l.map B := by simp [turnB]
theorem turnB_len (l : List Bool) (i : Nat) (h : i ≤ l.length) : (turnB l i).length = l.length := by simp [turnB]; omega
theorem turnB_all (l : List Bool) : turnB l l.length = (l.map (!·)).map B := by simp [turnB]
theorem turnB_get {l : List Bool} {i : Nat} (h : i < l.length) (v : V) : (turnB l i).getD i v = B l[i] := by
  unfold turnB
  have hl : ((l.take i).map fun b => B (!b)).length = i := by simp; omega
  rw [List.getD_eq_getElem?_getD, List.getElem?_append_right (by rw [hl]; exact Nat.le_refl _), hl, Nat.sub_self, List.drop_eq_getElem_cons h]
  rfl
theorem turnB_set {l : List Bool} {i : Nat} (h : i < l.length) : (turnB l i).set i (B !l[i]) = turnB l (i + 1) := by
  unfold turnB
  have hl : ((l.take i).map fun b => B (!b)).length = i := by simp; omega
  rw [List.set_append_right _ _ (by rw [hl]; exact Nat.le_refl _), hl, Nat.sub_self, List.drop_eq_getElem_cons h, List.map_cons, List.set_cons_zero, take_snoc h, List.map_append, List.append_assoc]
  rfl
def notB (b : Bool) : V := B (!b)
end Go.Ev
namespace Go.Ev
open Go
set_option linter.unusedVariables false
theorem allB_get {p : Int → Bool} {s : ByteArray} : ∀ (n i : Nat), s.size - i ≤ n → allB p s i = true → ∀ j : Nat, i ≤ j → j < s.size → p (bt s j) = true := by
  intro n
  induction n with
  | zero => intro i h _ j h1 h2; omega
  | succ n ih =>
    intro i h ha j h1 h2
    rw [allB_next p s (by omega), Bool.and_eq_true] at ha
    by_cases e : j = i
    · subst e; exact ha.1
    · exact ih (i + 1) (by omega) ha.2 j (by omega) h2
theorem word_ltr {s : ByteArray} (h : isWord s = true) {i : Nat} (hi : i < s.size) : ltr (bt s i) = 0 ∨ ltr (bt s i) = 1 ∨ ltr (bt s i) = 2 := by
  unfold isWord at h
  rw [Bool.and_eq_true] at h
  have h1 := allB_get _ 0 (Nat.le_refl _) h.2 i (Nat.zero_le _) hi
  unfold isLtr at h1
  have h1 := of_decide_eq_true h1
  unfold ltr at h1 ⊢
  repeat' split at h1
  all_goals first
    | (exfalso; omega)
    | simp_all
theorem word_le {s : ByteArray} (h : isWord s = true) : s.size ≤ 30 := by
  unfold isWord at h
  rw [Bool.and_eq_true] at h
  exact of_decide_eq_true h.1
def wc (s : ByteArray) (q : Nat) (k : Int) : Nat := if q < s.size ∧ ltr (bt s q) = k then q + 1 else s.size + 1
def rowW (s : ByteArray) (q : Nat) : Nat × Nat × Nat := (wc s q 0, wc s q 1, wc s q 2)
def wordW (s : ByteArray) : DN := ⟨(List.range (s.size + 2)).map fun q => (q == s.size), (List.range (s.size + 2)).map (rowW s)⟩
def aW (s : ByteArray) (q : Nat) : V := .bool ((q : Int) == (s.size : Int))
def rW (s : ByteArray) (q : Nat) : V := NT (rowW s q)
theorem aW_map (s : ByteArray) (n : Nat) : (List.range n).map (aW s) = ((List.range n).map fun q => (q == s.size)).map B := by
  rw [List.map_map]
  refine List.map_congr_left fun q _ => ?_
  show V.bool _ = V.bool _
  rw [nat_beq]
theorem rW_map (s : ByteArray) (n : Nat) : (List.range n).map (rW s) = ((List.range n).map (rowW s)).map NT := by rw [List.map_map]; rfl
theorem wc_lt (s : ByteArray) (q : Nat) (k : Int) : wc s q k < s.size + 2 := by
  unfold wc
  split <;> omega
theorem wordW_ok (s : ByteArray) : (wordW s).ok ∧ (wordW s).accept.length = s.size + 2 := by
  refine ⟨⟨by simp [wordW], ?_⟩, by simp [wordW]⟩
  intro t ht
  obtain ⟨q, _, rfl⟩ := List.mem_map.1 ht
  simp only [wordW, List.length_map, List.length_range]
  exact ⟨wc_lt s q 0, wc_lt s q 1, wc_lt s q 2⟩
theorem wordW_val {s : ByteArray} (h : s.size ≤ 30) : Val (wordW s) := ⟨(wordW_ok s).1, by rw [(wordW_ok s).2]; omega, by rw [(wordW_ok s).2]; omega⟩
def DN.encT (d : DN) : V := .agg [.slc true 1 (d.accept.map B), .slc true 1 (d.next.map NT)]
end Go.Ev
namespace Go.Ev
open Go
set_option linter.unusedVariables false
def anyD : DN := ⟨[false, true, false], [(1, 1, 1), (2, 2, 2), (2, 2, 2)]⟩
def noD : DN := ⟨[false], [(0, 0, 0)]⟩
def leafR (k : Int) (s : ByteArray) : DN := if k = 2 then quotS (wordW ByteArray.empty) 0 else if k = 3 then quotS (wordW s) 0 else if k = 4 then anyD else noD
def opR (k : Int) (s : ByteArray) : List (Option DN) → Option DN
  | [] => some (leafR k s)
  | [a] => a.bind fun d => if k = 9 then some (cplD (quotS d 0)) else starD d
  | a :: b :: _ => a.bind fun d => b.bind fun e => if k = 5 then concD d e else fitD (prodD k d e)
def compR (r : Rx) : Option DN := opR r.kind r.letter (r.args.attach.map fun x => compR x.1)
  termination_by SizeOf.sizeOf r
  decreasing_by exact Rx.lt _ x.2
theorem compR_eq (r : Rx) : compR r = opR r.kind r.letter (r.args.map compR) := by rw [compR, List.attach_map_val (f := compR)]
theorem anyD_val : Val anyD := ⟨⟨rfl, by decide⟩, by decide, by decide⟩
theorem noD_val : Val noD := ⟨⟨rfl, by decide⟩, by decide, by decide⟩
theorem word0 : isWord ByteArray.empty = true := by
  unfold isWord
  rw [allB]
  rfl
theorem wordQ_val {s : ByteArray} (h : isWord s = true) : Val (quotS (wordW s) 0) := quotS_val (wordW_val (word_le h)) (by rw [(wordW_ok s).2]; omega)
theorem leafR_val {k : Int} {s : ByteArray} (h : k = 3 → isWord s = true) : Val (leafR k s) := by
  unfold leafR
  by_cases h2 : k = 2
  · rw [if_pos h2]; exact wordQ_val word0
  rw [if_neg h2]
  by_cases h3 : k = 3
  · rw [if_pos h3]; exact wordQ_val (h h3)
  rw [if_neg h3]
  by_cases h4 : k = 4
  · rw [if_pos h4]; exact anyD_val
  · rw [if_neg h4]; exact noD_val
theorem concD_val {a b e : DN} (ha : Val a) (hb : Val b) (h : concD a b = some e) : Val e := by
  unfold concD at h
  by_cases hl : (listC2 a b).length ≤ 400
  · rw [if_pos hl] at h
    exact fitD_val (expD_ok hl).1 (expD_ok hl).2.1 h
  · rw [if_neg hl] at h; cases h
theorem starD_val {d e : DN} (hd : Val d) (h : starD d = some e) : Val e := by
  unfold starD at h
  by_cases hl : (listT d).length ≤ 400
  · rw [if_pos hl] at h
    exact fitD_val (expD_ok hl).1 (expD_ok hl).2.1 h
  · rw [if_neg hl] at h; cases h
theorem good_args {r : Rx} (h : r.good = true) : (∀ x ∈ r.args, x.good = true) ∧ okTop r = true := by
  rw [Rx.good_eq, Bool.and_eq_true, List.all_eq_true] at h
  exact ⟨fun x hx => h.1 _ (List.mem_map_of_mem hx), h.2⟩
theorem okTop_word {r : Rx} (h : okTop r = true) (k : r.kind = 3) : isWord r.letter = true := by
  unfold okTop at h
  rw [if_pos k, Bool.and_eq_true, Bool.and_eq_true] at h
  exact h.2.2
theorem okTop_len {r : Rx} (h : okTop r = true) : (r.args.length : Int) = argN r.kind := by
  unfold okTop at h
  rw [Bool.and_eq_true, beq_iff_eq] at h
  exact h.1
theorem compR_val (r : Rx) (hg : r.good = true) {e : DN} (h : compR r = some e) : Val e := by
  obtain ⟨h1, h2⟩ := good_args hg
  have ih : ∀ x ∈ r.args, ∀ d, compR x = some d → Val d := fun x hx d hd => compR_val x (h1 x hx) hd
  rw [compR_eq] at h
  match ha : r.args, h with
  | [], h =>
    rw [List.map_nil] at h
    cases h
    exact leafR_val (okTop_word h2)
  | [x], h =>
    rw [List.map_cons, List.map_nil] at h
    have hx := ih x (by rw [ha]; exact List.mem_cons_self ..)
    unfold opR at h
    cases hc : compR x with
    | none => rw [hc] at h; cases h
    | some d =>
      rw [hc] at h
      change (if r.kind = 9 then some (cplD (quotS d 0)) else starD d) = some e at h
      have hd := hx _ hc
      by_cases k9 : r.kind = 9
      · rw [if_pos k9] at h
        cases h
        exact cplD_val (quotS_val hd hd.pos)
      · rw [if_neg k9] at h
        exact starD_val hd h
  | x :: y :: l, h =>
    rw [List.map_cons, List.map_cons] at h
    have hx := ih x (by rw [ha]; exact List.mem_cons_self ..)
    have hy := ih y (by rw [ha]; exact List.mem_cons_of_mem _ (List.mem_cons_self ..))
    unfold opR at h
    cases hc : compR x with
    | none => rw [hc] at h; cases h
    | some d =>
      cases hc' : compR y with
      | none => rw [hc, hc'] at h; cases h
      | some f =>
        rw [hc, hc'] at h
        change (if r.kind = 5 then concD d f else fitD (prodD r.kind d f)) = some e at h
        have hd := hx _ hc
        have hf := hy _ hc'
        by_cases k5 : r.kind = 5
        · rw [if_pos k5] at h
          exact concD_val hd hf h
        · rw [if_neg k5] at h
          exact fitD_val (prodD_ok hd hf).1 (prodD_ok hd hf).2.1 h
  termination_by SizeOf.sizeOf r
  decreasing_by exact Rx.lt _ hx
/-- arities -/
theorem good_cases {r : Rx} (h : r.good = true) : ((r.kind = 1 ∨ r.kind = 2 ∨ r.kind = 3 ∨ r.kind = 4) ∧ r.args = []) ∨ ((r.kind = 8 ∨ r.kind = 9) ∧ ∃ x, r.args = [x]) ∨ ((r.kind = 5 ∨ r.kind = 6 ∨ r.kind = 7) ∧ ∃ x y, r.args = [x, y]) := by
  have hl := okTop_len (good_args h).2
  unfold argN at hl
  by_cases h1 : r.kind = 1 ∨ r.kind = 2 ∨ r.kind = 3 ∨ r.kind = 4
  · rw [if_pos h1] at hl
    exact Or.inl ⟨h1, List.eq_nil_of_length_eq_zero (by omega)⟩
  rw [if_neg h1] at hl
  by_cases h2 : r.kind = 8 ∨ r.kind = 9
  · rw [if_pos h2] at hl
    refine Or.inr (Or.inl ⟨h2, ?_⟩)
    match ha : r.args, hl with
    | [], hl => simp at hl
    | [x], _ => exact ⟨x, rfl⟩
    | x :: y :: l, hl => simp at hl; omega
  rw [if_neg h2] at hl
  by_cases h3 : r.kind = 5 ∨ r.kind = 6 ∨ r.kind = 7
  · rw [if_pos h3] at hl
    refine Or.inr (Or.inr ⟨h3, ?_⟩)
    match ha : r.args, hl with
    | [], hl => simp at hl
    | [x], hl => simp at hl
    | [x, y], _ => exact ⟨x, y, rfl⟩
    | x :: y :: z :: l, hl => simp at hl; omega
  · rw [if_neg h3] at hl
    omega
end Go.Ev
namespace Go.Ev
open Go
/-- letters alone -/
def Ltrs (s : ByteArray) : Prop := ∀ i : Nat, i < s.size → isLtr (bt s i) = true
theorem ltrs_word {s : ByteArray} (h : isWord s = true) : Ltrs s := by
  unfold isWord at h
  rw [Bool.and_eq_true] at h
  exact fun i hi => allB_get _ 0 (Nat.le_refl _) h.2 i (Nat.zero_le _) hi
theorem word_30 {s : ByteArray} (h : isWord s = true) : s.size ≤ 30 := by
  unfold isWord at h
  rw [Bool.and_eq_true] at h
  exact of_decide_eq_true h.1
theorem isLtr_abc {c : Int} (h : isLtr c = true) : c = 97 ∨ c = 98 ∨ c = 99 := by
  unfold isLtr ltr at h
  have := of_decide_eq_true h
  repeat' split at this
  all_goals omega
theorem bt_append_l (a b : ByteArray) {i : Nat} (h : i < a.size) : bt (a ++ b) (i : Int) = bt a (i : Int) := by
  have h2 : i < (a ++ b).size := by rw [ByteArray.size_append]; omega
  unfold bt
  simp only [Int.toNat_natCast, h, h2, dif_pos]
  rw [ByteArray.getElem_append_left]
theorem bt_append_r (a b : ByteArray) {i : Nat} (h : a.size ≤ i) (h' : i < (a ++ b).size) : bt (a ++ b) (i : Int) = bt b ((i - a.size : Nat) : Int) := by
  have h2 : i - a.size < b.size := by rw [ByteArray.size_append] at h'; omega
  unfold bt
  simp only [Int.toNat_natCast, h', h2, dif_pos]
  rw [ByteArray.getElem_append_right h]
theorem Ltrs.app {a b : ByteArray} (ha : Ltrs a) (hb : Ltrs b) : Ltrs (a ++ b) := by
  intro i hi
  by_cases k : i < a.size
  · rw [bt_append_l a b k]; exact ha i k
  · rw [bt_append_r a b (by omega) hi]
    exact hb _ (by rw [ByteArray.size_append] at hi; omega)
theorem Ltrs.nil : Ltrs ⟨#[]⟩ := fun i hi => absurd hi (Nat.not_lt_zero _)
theorem Ltrs.one {s : ByteArray} (h : Ltrs s) {i : Nat} (hi : i < s.size) : Ltrs (one s i) := by
  intro j hj
  rw [one_size s i hi] at hj
  obtain rfl : j = 0 := by omega
  have := bt_extract s i (i + 1) 0 (by omega) (by omega)
  unfold Go.Ev.one
  rw [this]
  exact h _ hi
/-- what stands for a byte -/
def imgM (m : Mor) (s : ByteArray) (i : Nat) : ByteArray := if bt s i = 97 then m.a else if bt s i = 98 then m.b else if bt s i = 99 then m.c else one s i
def appM (m : Mor) (s : ByteArray) : ByteArray := repl (imgM m s) s 0 ⟨#[]⟩
theorem appM_le (m : Mor) (s : ByteArray) : (appM m s).size ≤ 1048576 := repl_le _ _ _ 0 _ (Nat.le_refl _) (by decide)
theorem repl_ltrs {by_ : Nat → ByteArray} {s : ByteArray} (hb : ∀ i, i < s.size → Ltrs (by_ i)) : ∀ (n i : Nat) (out : ByteArray), s.size - i ≤ n → Ltrs out → Ltrs (repl by_ s i out) := by
  intro n
  induction n with
  | zero => intro i out h ho; rw [repl_end (by omega)]; exact ho
  | succ n ih =>
    intro i out h ho
    by_cases k : i < s.size
    · rw [repl_next k]
      split
      · exact Ltrs.nil
      · exact ih _ _ (by omega) (ho.app (hb i k))
    · rw [repl_end k]; exact ho
theorem small_ltrs {s : ByteArray} (h : small s = true) : Ltrs s ∧ s.size ≤ 3 := by
  unfold small at h
  rw [Bool.and_eq_true] at h
  exact ⟨ltrs_word h.1, of_decide_eq_true h.2⟩
theorem isMor_ltrs {m : Mor} (h : isMor m = true) : (Ltrs m.a ∧ m.a.size ≤ 3) ∧ (Ltrs m.b ∧ m.b.size ≤ 3) ∧ (Ltrs m.c ∧ m.c.size ≤ 3) := by
  unfold isMor at h
  rw [Bool.and_eq_true, Bool.and_eq_true] at h
  exact ⟨small_ltrs h.1, small_ltrs h.2.1, small_ltrs h.2.2⟩
theorem appM_ltrs {m : Mor} (hm : isMor m = true) {s : ByteArray} (h : Ltrs s) : Ltrs (appM m s) := by
  obtain ⟨⟨ha, _⟩, ⟨hb, _⟩, ⟨hc, _⟩⟩ := isMor_ltrs hm
  refine repl_ltrs (fun i hi => ?_) _ 0 _ (Nat.le_refl _) Ltrs.nil
  unfold imgM
  split
  · exact ha
  split
  · exact hb
  split
  · exact hc
  exact h.one hi
/-- the state behind the rest of a string -/
def nxL (t : Nat × Nat × Nat) (c : Int) : Nat := if c = 97 then t.1 else if c = 98 then t.2.1 else t.2.2
def walk (d : DN) (s : ByteArray) (q i : Nat) : Nat := if i < s.size then walk d s (nxL (d.nx q) (bt s i)) (i + 1) else q
  termination_by s.size - i
theorem walk_next {d : DN} {s : ByteArray} {q i : Nat} (h : i < s.size) : walk d s q i = walk d s (nxL (d.nx q) (bt s i)) (i + 1) := by rw [walk, if_pos h]
theorem walk_end {d : DN} {s : ByteArray} {q i : Nat} (h : ¬ i < s.size) : walk d s q i = q := by rw [walk, if_neg h]
theorem nxL_lt {d : DN} (ho : d.ok) {q : Nat} (h : q < d.accept.length) (c : Int) : nxL (d.nx q) c < d.accept.length := by
  obtain ⟨h1, h2, h3⟩ := DN.nx_lt ho h
  unfold nxL
  split
  · exact h1
  split
  · exact h2
  · exact h3
theorem walk_lt {d : DN} (ho : d.ok) (s : ByteArray) : ∀ (n q i : Nat), s.size - i ≤ n → q < d.accept.length → walk d s q i < d.accept.length := by
  intro n
  induction n with
  | zero => intro q i h hq; rw [walk_end (by omega)]; exact hq
  | succ n ih =>
    intro q i h hq
    by_cases k : i < s.size
    · rw [walk_next k]; exact ih _ _ (by omega) (nxL_lt ho hq _)
    · rw [walk_end k]; exact hq
def accD (d : DN) (s : ByteArray) : Bool := d.accept.getD (walk d s 0 0) false
end Go.Ev
namespace Go.Ev
open Go
/-- an expression's text -/
def opT (k : Int) (s : ByteArray) : List ByteArray → ByteArray
  | [] => if k = 1 then ⟨#[48]⟩ else if k = 2 then ⟨#[49]⟩ else if k = 3 then s else ⟨#[46]⟩
  | [a] => (if k = 8 then ⟨#[42]⟩ else ⟨#[33]⟩) ++ a
  | a :: b :: _ => ((⟨#[40]⟩ ++ a) ++ (if k = 6 then ⟨#[124]⟩ else if k = 7 then ⟨#[38]⟩ else ⟨#[]⟩)) ++ b ++ ⟨#[41]⟩
def textR (r : Rx) : ByteArray := opT r.kind r.letter (r.args.attach.map fun x => textR x.1)
  termination_by SizeOf.sizeOf r
  decreasing_by exact Rx.lt _ x.2
theorem textR_eq (r : Rx) : textR r = opT r.kind r.letter (r.args.map textR) := by rw [textR, List.attach_map_val (f := textR)]
theorem textR_le (r : Rx) (hg : r.good = true) : (textR r).size ≤ 3 * r.nodes := by
  obtain ⟨h1, h2⟩ := good_args hg
  have ih : ∀ x ∈ r.args, (textR x).size ≤ 3 * x.nodes := fun x hx => textR_le x (h1 x hx)
  rw [textR_eq, Rx.nodes_eq]
  rcases good_cases hg with ⟨k, ha⟩ | ⟨k, x, ha⟩ | ⟨k, x, y, ha⟩
  · rw [ha] at ih ⊢
    have hl : r.kind = 3 → r.letter.size = 1 := by
      intro k3
      unfold okTop at h2
      rw [if_pos k3, Bool.and_eq_true, Bool.and_eq_true] at h2
      exact of_decide_eq_true h2.2.1
    show (if r.kind = 1 then (⟨#[48]⟩ : ByteArray) else if r.kind = 2 then ⟨#[49]⟩ else if r.kind = 3 then r.letter else ⟨#[46]⟩).size ≤ 3
    split
    · decide
    split
    · decide
    split
    · rename_i k3; rw [hl k3]; decide
    · decide
  · have hx := ih x (by rw [ha]; exact List.mem_cons_self ..)
    rw [ha]
    show ((if r.kind = 8 then (⟨#[42]⟩ : ByteArray) else ⟨#[33]⟩) ++ textR x).size ≤ 3 * (1 + (x.nodes + 0))
    rw [ByteArray.size_append]
    have : (if r.kind = 8 then (⟨#[42]⟩ : ByteArray) else ⟨#[33]⟩).size = 1 := by split <;> rfl
    omega
  · have hx := ih x (by rw [ha]; exact List.mem_cons_self ..)
    have hy := ih y (by rw [ha]; exact List.mem_cons_of_mem _ (List.mem_cons_self ..))
    rw [ha]
    show (((⟨#[40]⟩ ++ textR x) ++ (if r.kind = 6 then (⟨#[124]⟩ : ByteArray) else if r.kind = 7 then ⟨#[38]⟩ else ⟨#[]⟩)) ++ textR y ++ (⟨#[41]⟩ : ByteArray)).size ≤ 3 * (1 + (x.nodes + (y.nodes + 0)))
    have e1 : (⟨#[40]⟩ : ByteArray).size = 1 := rfl
    have e2 : (⟨#[41]⟩ : ByteArray).size = 1 := rfl
    have e3 : (if r.kind = 6 then (⟨#[124]⟩ : ByteArray) else if r.kind = 7 then ⟨#[38]⟩ else ⟨#[]⟩).size ≤ 1 := by
      split
      · decide
      split <;> decide
    simp only [ByteArray.size_append]
    omega
  termination_by SizeOf.sizeOf r
  decreasing_by exact Rx.lt _ hx
def fmtR (r : Rx) : ByteArray := if validR r = true then textR r else ⟨#[]⟩
theorem fmtR_le (r : Rx) : (fmtR r).size ≤ 48 := by
  unfold fmtR
  split
  · rename_i h
    unfold validR at h
    rw [Bool.and_eq_true, Bool.and_eq_true] at h
    have := textR_le r h.2.2
    have := of_decide_eq_true h.1
    omega
  · decide
/-- a dash for nothing -/
def dash (s : ByteArray) : ByteArray := if s.size = 0 then ⟨#[45]⟩ else s
theorem dash_le (s : ByteArray) : (dash s).size ≤ s.size + 1 := by
  unfold dash
  split
  · have : (⟨#[45]⟩ : ByteArray).size = 1 := rfl
    omega
  · omega
end Go.Ev
namespace Go.Ev
open Go
/-- a valid automaton's numbers -/
def trip (r : List Int) : Nat × Nat × Nat := ((r.getD 0 0).toNat, (r.getD 1 0).toNat, (r.getD 2 0).toNat)
def Dfa.dn (x : Dfa) : DN := ⟨x.accept, x.next.map trip⟩
theorem rowOk_trip {n : Nat} {r : List Int} (h : rowOk n r = true) : r = [((trip r).1 : Int), (trip r).2.1, (trip r).2.2] ∧ (trip r).1 < n ∧ (trip r).2.1 < n ∧ (trip r).2.2 < n := by
  unfold rowOk at h
  rw [Bool.and_eq_true, List.all_eq_true] at h
  obtain ⟨h1, h2⟩ := h
  have h3 := eq_of_beq h1
  match r, h3, h2 with
  | [a, b, c], _, h2 =>
    have ha := h2 a (by simp)
    have hb := h2 b (by simp)
    have hc := h2 c (by simp)
    rw [Bool.and_eq_true, decide_eq_true_eq, decide_eq_true_eq] at ha hb hc
    unfold trip
    simp only [List.getD_cons_zero, List.getD_cons_succ]
    have ea : ((a.toNat : Nat) : Int) = a := Int.toNat_of_nonneg ha.1
    have eb : ((b.toNat : Nat) : Int) = b := Int.toNat_of_nonneg hb.1
    have ec : ((c.toNat : Nat) : Int) = c := Int.toNat_of_nonneg hc.1
    rw [ea, eb, ec]
    exact ⟨rfl, by omega, by omega, by omega⟩
  | [], h3, _ => simp at h3
  | [_], h3, _ => simp at h3
  | [_, _], h3, _ => simp at h3
  | _ :: _ :: _ :: _ :: _, h3, _ => simp at h3; omega
theorem validD_dn {x : Dfa} (h : validD x = true) : x = x.dn.dfa ∧ Val x.dn := by
  unfold validD at h
  rw [Bool.and_eq_true, Bool.and_eq_true, Bool.and_eq_true, decide_eq_true_eq, decide_eq_true_eq, List.all_eq_true] at h
  obtain ⟨⟨h1, h2⟩, h3, h4⟩ := h
  have h3 := eq_of_beq h3
  refine ⟨?_, ⟨?_, ?_⟩, ?_, ?_⟩
  · obtain ⟨A, N⟩ := x
    unfold Dfa.dn DN.dfa
    dsimp only at *
    rw [List.map_map]
    congr 1
    have : ∀ r ∈ N, id r = ((fun t : Nat × Nat × Nat => [(t.1 : Int), t.2.1, t.2.2]) ∘ trip) r := fun r hr => (rowOk_trip (h4 r hr)).1
    rw [← List.map_congr_left this, List.map_id]
  · unfold Dfa.dn
    dsimp only
    rw [List.length_map]
    omega
  · intro t ht
    unfold Dfa.dn at ht ⊢
    dsimp only at ht ⊢
    obtain ⟨r, hr, rfl⟩ := List.mem_map.1 ht
    exact (rowOk_trip (h4 r hr)).2
  · show 1 ≤ x.accept.length; omega
  · show x.accept.length ≤ 40; omega
/-- answers behind a word -/
def rqA (d : DN) (s : ByteArray) (q : Nat) : Bool := d.accept.getD (walk d s q 0) false
def rqD (d : DN) (s : ByteArray) : DN := ⟨(List.range d.accept.length).map (rqA d s), d.next⟩
theorem rqD_ok {d : DN} (h : d.ok) (s : ByteArray) : (rqD d s).ok := by
  unfold rqD DN.ok
  dsimp only
  rw [List.length_map, List.length_range]
  exact h
theorem rqD_len (d : DN) (s : ByteArray) : (rqD d s).accept.length = d.accept.length := by
  unfold rqD
  dsimp only
  rw [List.length_map, List.length_range]
def mixA (d : DN) (s : ByteArray) (i : Nat) : List Bool := (List.range d.accept.length).map fun q => if q < i then rqA d s q else d.accept.getD q false
theorem mixA_len (d : DN) (s : ByteArray) (i : Nat) : (mixA d s i).length = d.accept.length := by unfold mixA; rw [List.length_map, List.length_range]
theorem mixA_get (d : DN) (s : ByteArray) (i j : Nat) (h : j < (mixA d s i).length) : (mixA d s i)[j] = if j < i then rqA d s j else d.accept.getD j false := by
  simp only [mixA, List.getElem_map, List.getElem_range]
theorem mixA_0 (d : DN) (s : ByteArray) : mixA d s 0 = d.accept := by
  refine List.ext_getElem (mixA_len d s 0) fun j h h' => ?_
  rw [mixA_get, if_neg (Nat.not_lt_zero _), List.getD_eq_getElem?_getD, List.getElem?_eq_getElem h']
  rfl
theorem mixA_all (d : DN) (s : ByteArray) : mixA d s d.accept.length = (rqD d s).accept := by
  unfold mixA rqD
  refine List.map_congr_left fun q hq => ?_
  rw [if_pos (List.mem_range.1 hq)]
theorem mixA_set (d : DN) (s : ByteArray) {i : Nat} (_h : i < d.accept.length) : ((mixA d s i).map B).set i (B (rqA d s i)) = (mixA d s (i + 1)).map B := by
  rw [← List.map_set]
  refine congrArg (List.map B) (List.ext_getElem (by rw [List.length_set, mixA_len, mixA_len]) fun j h1 h2 => ?_)
  rw [List.getElem_set]
  rw [mixA_get, mixA_get]
  by_cases e : i = j
  · subst e
    rw [if_pos rfl, if_pos (Nat.lt_succ_self _)]
  · rw [if_neg e]
    by_cases k : j < i
    · rw [if_pos k, if_pos (by omega)]
    · rw [if_neg k, if_neg (by omega)]
theorem uMakes_acc (s : St) (d : Nat) {A : List Bool} (l : List V) (hA : A ≠ []) (h : s.b d = none) : uMakes s d [.uq 1 (A.map B), .slc true 1 l] = some ([.aref s.lv d A.length, .slc true 1 l], { s with b := upd s.b d (some (.arr false 1 (A.map B))) }) := by
  have e : uMakes s (d + 1) [.slc true 1 l] = some ([.slc true 1 l], s) := rfl
  unfold uMakes
  rw [e]
  dsimp only
  rw [uMake_acc s d A h]
  unfold rowT accO
  rw [if_neg (fun e => hA (List.eq_nil_of_length_eq_zero e)), if_neg hA]
  rfl
attribute [go_sem high] uMakes_acc
theorem peekC_aref (s : St) (n lv t k : Nat) : peekC s (n + 1) (.aref lv t k) = match s.ob lv t with
    | some (.arr _ sz l) => if l.length = k then some (.slc false sz l) else none
    | some (.dir sz l) => if l.length = k then (peekL (peekC s n) l).map (.slc false sz ·) else none
    | _ => none := rfl
theorem peekC_slc (s : St) (n : Nat) (b : Bool) (sz : Nat) (l : List V) : peekC s n (.slc b sz l) = some (.slc false sz l) := by
  cases n <;> cases b <;> rfl
theorem peekC_0 (s : St) (n : Nat) (i : Int) (k : IntKind) : peekC s n (.int k i) = some (.int k i) := by cases n <;> rfl
attribute [go_sem] peekC_aref peekC_slc peekC_0
theorem free_B (l : List Bool) : (l.map B).all V.free = true := by
  rw [List.all_eq_true]
  intro v hv
  obtain ⟨b, _, rfl⟩ := List.mem_map.1 hv
  simp [B, V.free]
theorem free_NU (l : List (Nat × Nat × Nat)) : (l.map NU).all V.free = true := by
  rw [List.all_eq_true]
  intro v hv
  obtain ⟨b, _, rfl⟩ := List.mem_map.1 hv
  unfold NU
  rw [free_uq]
  simp [V.free]
theorem free_bool (b : Bool) : (V.bool b).free = true := by rw [V.free]
theorem free_nil (n : Nat) : (V.slc false n []).free = true := by rw [V.free]
theorem flat_agg (l : List V) : (V.agg l).flatOk = (V.agg l).aggOk := rfl
theorem flat_tup (l : List V) : (V.tup l).flatOk = l.all V.aggOk := rfl
attribute [go_sem] free_uq free_agg free_tup free_B free_NU free_bool free_nil flat_agg flat_tup
attribute [go_sem] V.aggOk isCell
theorem ice_B (l : List Bool) : (l.map B).map V.ice = l.map B := by
  rw [List.map_map]
  exact List.map_congr_left fun b _ => by simp [B, V.ice]
theorem ice_I (l : List Int) : (l.map I).map V.ice = l.map I := by
  rw [List.map_map]
  exact List.map_congr_left fun b _ => by simp [I, V.ice]
theorem ice_UR (l : List (List Int)) : (l.map UR).map V.ice = l.map IL := by
  rw [List.map_map]
  refine List.map_congr_left fun r _ => ?_
  show V.ice (.uq 1 (r.map I)) = .slc false 1 (r.map I)
  rw [V.ice]
  simp
  intro a _
  simp [I, V.ice]
theorem ice_NU (l : List (Nat × Nat × Nat)) : (l.map NU).map V.ice = l.map NT := by
  rw [List.map_map]
  refine List.map_congr_left fun r _ => ?_
  show V.ice (.uq 1 _) = .slc false 1 _
  rw [V.ice]
  simp [V.ice]
attribute [go_sem] ice_B ice_I ice_UR ice_NU
/-- what a quotient returns -/
def rqR (x : Dfa) (s : ByteArray) : V := if validD x = true ∧ isWord s = true then .tup [(quotS (rqD x.dn s) 0).encD, .bool true] else .tup [.agg [.slc false 1 [], .slc false 1 []], .bool false]
end Go.Ev
