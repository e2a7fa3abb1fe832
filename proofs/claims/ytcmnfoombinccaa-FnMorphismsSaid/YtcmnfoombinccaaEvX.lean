/- Draws: an automaton and a morphism, two morphisms, a morphism and a word. The words of a length, and up to one. Words run through an automaton, automata compared. Programs of lines run, both. Composed morphisms. The law: a preimage accepts a word exactly if its image is accepted, and composed morphisms are applied one after the other. Typed cells as the laws' data. -/
import Derived.Test.YtcmnfoombinccaaProg
import Derived.Test.YtcmnfoombinccaaEvW
import Derived.Test.YtcmnfoombinccaaEvV
import Derived.Test.YtcmnfoombinccaaEvS
import Derived.Test.YtcmnfoombinccaaEvT
import Derived.Test.YtcmnfoombinccaaEvP
set_option linter.unusedVariables false
set_option linter.unusedSimpArgs false
namespace Go.Ev
open Go Go.Proofs
set_option maxRecDepth 10000
set_option maxHeartbeats 4000000
set_option linter.unusedVariables false
set_option linter.unusedSimpArgs false

theorem r5 (l : List Int) (hl : l.length ≤ 1048576) : ∃ (x : Dfa) (m : Mor), x.accept.length ≤ 100 ∧ x.next.length ≤ 100 ∧ (∀ r ∈ x.next, r.length ≤ 100) ∧ m.le ∧ run EE 5 [.slc false 1 (l.map U8)] [] = some (.tup [x.enc, m.enc], []) := by
  suffices H : ∀ Q : Rs → Prop, (∀ (x : Dfa) (m : Mor), x.accept.length ≤ 100 → x.next.length ≤ 100 → (∀ r ∈ x.next, r.length ≤ 100) → m.le → Q (some (.tup [x.enc, m.enc], []))) → Q (run EE 5 [.slc false 1 (l.map U8)] []) from
    H (fun r => ∃ (x : Dfa) (m : Mor), x.accept.length ≤ 100 ∧ x.next.length ≤ 100 ∧ (∀ r ∈ x.next, r.length ≤ 100) ∧ m.le ∧ r = some (.tup [x.enc, m.enc], [])) fun x m h1 h2 h3 h4 => ⟨x, m, h1, h2, h3, h4, rfl⟩
  intro Q hQ
  obtain ⟨h, hn⟩ := r19 l hl
  obtain ⟨_, ob, ⟨m, hm, rfl⟩, hc, hr⟩ := dMor l hl 4 0 [(upd (upd (upd n0 2 (some (Ob.box [.slc true 1 [], .slc true 1 []]))) 3 (some (Ob.box [.str ⟨#[]⟩, .str ⟨#[]⟩, .str ⟨#[]⟩]))) 4 (some (Ob.box [.slc false 1 (l.map U8), .int .i64 0, .int .i64 h])))] ⟨0, h, Nat.zero_le _, rfl⟩
  have hr' : run EE 20 [.ptr 0 4 0] [(upd (upd (upd n0 2 (some (Ob.box [.slc true 1 [], .slc true 1 []]))) 3 (some (Ob.box [.str ⟨#[]⟩, .str ⟨#[]⟩, .str ⟨#[]⟩]))) 4 (some (Ob.box [.slc false 1 (l.map U8), .int .i64 0, .int .i64 h])))] = some (m.enc, [(upd (upd (upd (upd n0 2 (some (Ob.box [.slc true 1 [], .slc true 1 []]))) 3 (some (Ob.box [.str ⟨#[]⟩, .str ⟨#[]⟩, .str ⟨#[]⟩]))) 4 (some (Ob.box [.slc false 1 (l.map U8), .int .i64 0, .int .i64 h]))) 4 (some ob))]) := hr
  have hc' : Cur l 4 0 [(upd (upd (upd (upd (upd (upd n0 2 (some (Ob.box [.slc true 1 [], .slc true 1 []]))) 3 (some (Ob.box [.str ⟨#[]⟩, .str ⟨#[]⟩, .str ⟨#[]⟩]))) 4 (some (Ob.box [.slc false 1 (l.map U8), .int .i64 0, .int .i64 h]))) 4 (some ob)) 5 (some (Ob.box [.str ⟨#[]⟩, .str ⟨#[]⟩, .str ⟨#[]⟩]))) 5 (some (Ob.box [.str m.a, .str m.b, .str m.c])))] := by
    obtain ⟨i, x, hi, ho⟩ := hc
    exact ⟨i, x, hi, ho⟩
  obtain ⟨_, ob2, ⟨x, x1, x2, x3, rfl⟩, hc2, hr2⟩ := dBent l hl 4 0 _ hc'
  have hr2' : run EE 21 [.ptr 0 4 0] [(upd (upd (upd (upd (upd (upd n0 2 (some (Ob.box [.slc true 1 [], .slc true 1 []]))) 3 (some (Ob.box [.str ⟨#[]⟩, .str ⟨#[]⟩, .str ⟨#[]⟩]))) 4 (some (Ob.box [.slc false 1 (l.map U8), .int .i64 0, .int .i64 h]))) 4 (some ob)) 5 (some (Ob.box [.str ⟨#[]⟩, .str ⟨#[]⟩, .str ⟨#[]⟩]))) 5 (some (Ob.box [.str m.a, .str m.b, .str m.c])))] = some (_, [(upd (upd (upd (upd (upd (upd (upd n0 2 (some (Ob.box [.slc true 1 [], .slc true 1 []]))) 3 (some (Ob.box [.str ⟨#[]⟩, .str ⟨#[]⟩, .str ⟨#[]⟩]))) 4 (some (Ob.box [.slc false 1 (l.map U8), .int .i64 0, .int .i64 h]))) 4 (some ob)) 5 (some (Ob.box [.str ⟨#[]⟩, .str ⟨#[]⟩, .str ⟨#[]⟩]))) 5 (some (Ob.box [.str m.a, .str m.b, .str m.c]))) 4 (some ob2))]) := hr2
  simp only [Mor.enc] at hr'
  rw [run_eq EE 5 _ _ Try.func5 (by decide +kernel) rfl (show 1 ≤ _ by decide)]
  dsimp only [Try.f5]
  simp only [go_sem, hn, hr']
  rw [q_drawn]
  rotate_left
  · kernel_rfl
  simp only [go_sem, still, hr2', eq_self]
  exact hQ x m x1 x2 x3 hm
theorem r10 (l : List Int) (hl : l.length ≤ 1048576) : ∃ (m n : Mor), m.le ∧ n.le ∧ run EE 10 [.slc false 1 (l.map U8)] [] = some (.tup [m.enc, n.enc], []) := by
  suffices H : ∀ Q : Rs → Prop, (∀ (m n : Mor), m.le → n.le → Q (some (.tup [m.enc, n.enc], []))) → Q (run EE 10 [.slc false 1 (l.map U8)] []) from
    H (fun r => ∃ (m n : Mor), m.le ∧ n.le ∧ r = some (.tup [m.enc, n.enc], [])) fun m n h3 h4 => ⟨m, n, h3, h4, rfl⟩
  intro Q hQ
  obtain ⟨h, hn⟩ := r19 l hl
  obtain ⟨_, ob, ⟨m, hm, rfl⟩, hc, hr⟩ := dMor l hl 4 0 [(upd (upd (upd n0 2 (some (Ob.box [.str ⟨#[]⟩, .str ⟨#[]⟩, .str ⟨#[]⟩]))) 3 (some (Ob.box [.str ⟨#[]⟩, .str ⟨#[]⟩, .str ⟨#[]⟩]))) 4 (some (Ob.box [.slc false 1 (l.map U8), .int .i64 0, .int .i64 h])))] ⟨0, h, Nat.zero_le _, rfl⟩
  have hr' : run EE 20 [.ptr 0 4 0] [(upd (upd (upd n0 2 (some (Ob.box [.str ⟨#[]⟩, .str ⟨#[]⟩, .str ⟨#[]⟩]))) 3 (some (Ob.box [.str ⟨#[]⟩, .str ⟨#[]⟩, .str ⟨#[]⟩]))) 4 (some (Ob.box [.slc false 1 (l.map U8), .int .i64 0, .int .i64 h])))] = some (m.enc, [(upd (upd (upd (upd n0 2 (some (Ob.box [.str ⟨#[]⟩, .str ⟨#[]⟩, .str ⟨#[]⟩]))) 3 (some (Ob.box [.str ⟨#[]⟩, .str ⟨#[]⟩, .str ⟨#[]⟩]))) 4 (some (Ob.box [.slc false 1 (l.map U8), .int .i64 0, .int .i64 h]))) 4 (some ob))]) := hr
  have hc' : Cur l 4 0 [(upd (upd (upd (upd (upd (upd n0 2 (some (Ob.box [.str ⟨#[]⟩, .str ⟨#[]⟩, .str ⟨#[]⟩]))) 3 (some (Ob.box [.str ⟨#[]⟩, .str ⟨#[]⟩, .str ⟨#[]⟩]))) 4 (some (Ob.box [.slc false 1 (l.map U8), .int .i64 0, .int .i64 h]))) 4 (some ob)) 5 (some (Ob.box [.str ⟨#[]⟩, .str ⟨#[]⟩, .str ⟨#[]⟩]))) 5 (some (Ob.box [.str m.a, .str m.b, .str m.c])))] := by
    obtain ⟨i, x, hi, ho⟩ := hc
    exact ⟨i, x, hi, ho⟩
  obtain ⟨_, ob2, ⟨n, hn2, rfl⟩, hc2, hr2⟩ := dMor l hl 4 0 _ hc'
  have hr2' : run EE 20 [.ptr 0 4 0] [(upd (upd (upd (upd (upd (upd n0 2 (some (Ob.box [.str ⟨#[]⟩, .str ⟨#[]⟩, .str ⟨#[]⟩]))) 3 (some (Ob.box [.str ⟨#[]⟩, .str ⟨#[]⟩, .str ⟨#[]⟩]))) 4 (some (Ob.box [.slc false 1 (l.map U8), .int .i64 0, .int .i64 h]))) 4 (some ob)) 5 (some (Ob.box [.str ⟨#[]⟩, .str ⟨#[]⟩, .str ⟨#[]⟩]))) 5 (some (Ob.box [.str m.a, .str m.b, .str m.c])))] = some (_, [(upd (upd (upd (upd (upd (upd (upd n0 2 (some (Ob.box [.str ⟨#[]⟩, .str ⟨#[]⟩, .str ⟨#[]⟩]))) 3 (some (Ob.box [.str ⟨#[]⟩, .str ⟨#[]⟩, .str ⟨#[]⟩]))) 4 (some (Ob.box [.slc false 1 (l.map U8), .int .i64 0, .int .i64 h]))) 4 (some ob)) 5 (some (Ob.box [.str ⟨#[]⟩, .str ⟨#[]⟩, .str ⟨#[]⟩]))) 5 (some (Ob.box [.str m.a, .str m.b, .str m.c]))) 4 (some ob2))]) := hr2
  simp only [Mor.enc] at hr'
  rw [run_eq EE 10 _ _ Try.func10 (by decide +kernel) rfl (show 1 ≤ _ by decide)]
  dsimp only [Try.f10]
  simp only [go_sem, hn, hr']
  rw [q_drawn]
  rotate_left
  · kernel_rfl
  simp only [go_sem, still, hr2', eq_self]
  exact hQ m n hm hn2
theorem r15 (l : List Int) (hl : l.length ≤ 1048576) : ∃ (m : Mor) (s : ByteArray), m.le ∧ s.size ≤ 40 ∧ run EE 15 [.slc false 1 (l.map U8)] [] = some (.tup [m.enc, .str s], []) := by
  suffices H : ∀ Q : Rs → Prop, (∀ (m : Mor) (s : ByteArray), m.le → s.size ≤ 40 → Q (some (.tup [m.enc, .str s], []))) → Q (run EE 15 [.slc false 1 (l.map U8)] []) from
    H (fun r => ∃ (m : Mor) (s : ByteArray), m.le ∧ s.size ≤ 40 ∧ r = some (.tup [m.enc, .str s], [])) fun m s h3 h4 => ⟨m, s, h3, h4, rfl⟩
  intro Q hQ
  obtain ⟨h, hn⟩ := r19 l hl
  obtain ⟨_, ob, ⟨m, hm, rfl⟩, hc, hr⟩ := dMor l hl 4 0 [(upd (upd n0 2 (some (Ob.box [.str ⟨#[]⟩, .str ⟨#[]⟩, .str ⟨#[]⟩]))) 4 (some (Ob.box [.slc false 1 (l.map U8), .int .i64 0, .int .i64 h])))] ⟨0, h, Nat.zero_le _, rfl⟩
  have hr' : run EE 20 [.ptr 0 4 0] [(upd (upd n0 2 (some (Ob.box [.str ⟨#[]⟩, .str ⟨#[]⟩, .str ⟨#[]⟩]))) 4 (some (Ob.box [.slc false 1 (l.map U8), .int .i64 0, .int .i64 h])))] = some (m.enc, [(upd (upd (upd n0 2 (some (Ob.box [.str ⟨#[]⟩, .str ⟨#[]⟩, .str ⟨#[]⟩]))) 4 (some (Ob.box [.slc false 1 (l.map U8), .int .i64 0, .int .i64 h]))) 4 (some ob))]) := hr
  have hc' : Cur l 4 0 [(upd (upd (upd (upd (upd n0 2 (some (Ob.box [.str ⟨#[]⟩, .str ⟨#[]⟩, .str ⟨#[]⟩]))) 4 (some (Ob.box [.slc false 1 (l.map U8), .int .i64 0, .int .i64 h]))) 4 (some ob)) 5 (some (Ob.box [.str ⟨#[]⟩, .str ⟨#[]⟩, .str ⟨#[]⟩]))) 5 (some (Ob.box [.str m.a, .str m.b, .str m.c])))] := by
    obtain ⟨i, x, hi, ho⟩ := hc
    exact ⟨i, x, hi, ho⟩
  obtain ⟨_, ob2, ⟨s, s1, rfl⟩, hc2, hr2⟩ := dAny l hl 4 0 _ hc'
  have hr2' : run EE 34 [.ptr 0 4 0] [(upd (upd (upd (upd (upd n0 2 (some (Ob.box [.str ⟨#[]⟩, .str ⟨#[]⟩, .str ⟨#[]⟩]))) 4 (some (Ob.box [.slc false 1 (l.map U8), .int .i64 0, .int .i64 h]))) 4 (some ob)) 5 (some (Ob.box [.str ⟨#[]⟩, .str ⟨#[]⟩, .str ⟨#[]⟩]))) 5 (some (Ob.box [.str m.a, .str m.b, .str m.c])))] = some (_, [(upd (upd (upd (upd (upd (upd n0 2 (some (Ob.box [.str ⟨#[]⟩, .str ⟨#[]⟩, .str ⟨#[]⟩]))) 4 (some (Ob.box [.slc false 1 (l.map U8), .int .i64 0, .int .i64 h]))) 4 (some ob)) 5 (some (Ob.box [.str ⟨#[]⟩, .str ⟨#[]⟩, .str ⟨#[]⟩]))) 5 (some (Ob.box [.str m.a, .str m.b, .str m.c]))) 4 (some ob2))]) := hr2
  simp only [Mor.enc] at hr'
  rw [run_eq EE 15 _ _ Try.func15 (by decide +kernel) rfl (show 1 ≤ _ by decide)]
  dsimp only [Try.f15]
  simp only [go_sem, hn, hr']
  rw [q_drawn]
  rotate_left
  · kernel_rfl
  simp only [go_sem, still, hr2', eq_self]
  exact hQ m s hm s1
end Go.Ev
namespace Go.Ev
open Go Go.Proofs
set_option maxRecDepth 10000
set_option maxHeartbeats 4000000
set_option linter.unusedVariables false
set_option linter.unusedSimpArgs false

theorem r30 (n : Nat) (hn : n ≤ 5) : ∃ ws : List ByteArray, ws.length ≤ 243 ∧ (∀ w ∈ ws, w.size ≤ 5 ∧ Ltrs w) ∧ run EE 30 [.int .i64 n] [] = some (.slc false 1 (ws.map V.str), []) := by
  suffices H : ∀ Q : Rs → Prop, (∀ ws : List ByteArray, ws.length ≤ 243 → (∀ w ∈ ws, w.size ≤ 5 ∧ Ltrs w) → Q (some (.slc false 1 (ws.map V.str), []))) → Q (run EE 30 [.int .i64 n] []) from
    H (fun x => ∃ ws : List ByteArray, ws.length ≤ 243 ∧ (∀ w ∈ ws, w.size ≤ 5 ∧ Ltrs w) ∧ x = some (.slc false 1 (ws.map V.str), [])) fun ws h1 h2 => ⟨ws, h1, h2, rfl⟩
  intro Q hQ
  have q1 := r48 n 0 5
  have d1 : (decide ((0 : Int) ≤ n) && decide ((n : Int) ≤ 5)) = true := by
    rw [Bool.and_eq_true, decide_eq_true_eq, decide_eq_true_eq]; omega
  rw [d1] at q1
  rw [run_eq EE 30 _ _ Try.func30 (by decide +kernel) rfl (show 1 ≤ _ by decide)]
  dsimp only [Try.f30]
  simp only [go_sem, q1]
  refine iter_ex (fun x : Nat × List ByteArray => x.1 ≤ n ∧ x.2.length = 3 ^ x.1 ∧ ∀ w ∈ x.2, w.size = x.1 ∧ Ltrs w) (fun x => { t := upd (upd (upd e0 4 (.int .i64 (x.1 : Int))) 3 (.slc false 1 (x.2.map V.str))) 0 (.int .i64 (n : Int)), b := n0, o := [], r := #[ResultVar.tmp 2], f := 30, n := 43 }) Q (fun x => n - x.1) ?_ (0, [⟨#[]⟩]) ⟨Nat.zero_le _, rfl, by intro w hw; obtain rfl := List.mem_singleton.1 hw; exact ⟨rfl, Ltrs.nil⟩⟩
  rintro ⟨k, ws⟩ ⟨hk, hl, hs⟩ ih
  dsimp only at hk hl hs ⊢
  have hp : 3 ^ k ≤ 243 := by
    have := Nat.pow_le_pow_right (show 0 < 3 by decide) (show k ≤ 5 by omega)
    omega
  by_cases hh : k < n
  rotate_left
  · have k1 : ¬ (k : Int) < n := by omega
    have fin := hQ ws (by omega) (fun w hw => ⟨by rw [(hs w hw).1]; omega, (hs w hw).2⟩)
    simp only [go_sem, k1]
    exact fin
  have k1 : (k : Int) < n := by omega
  have wk := wrap_nat (n := k) (by omega)
  simp only [go_sem, k1]
  refine iter_ex (fun x : Nat × List ByteArray => x.1 ≤ ws.length ∧ x.2.length = 3 * x.1 ∧ ∀ w ∈ x.2, w.size = k + 1 ∧ Ltrs w) (fun x => { t := upd (upd (upd (upd (upd e0 6 (.int .i64 (x.1 : Int))) 5 (.slc true 1 (x.2.map V.str))) 4 (.int .i64 (k : Int))) 3 (.slc false 1 (ws.map V.str))) 0 (.int .i64 (n : Int)), b := n0, o := [], r := #[ResultVar.tmp 2], f := 30, n := 43 }) Q (fun x => ws.length - x.1) ?_ (0, []) ⟨Nat.zero_le _, rfl, by intro w hw; cases hw⟩
  rintro ⟨i, nx⟩ ⟨hi, hn1, hn2⟩ ih2
  dsimp only at hi hn1 hn2 ⊢
  by_cases hh2 : i < ws.length
  rotate_left
  · have k2 : ¬ (i : Int) < ws.length := by omega
    have e : i = ws.length := by omega
    have := ih (k + 1, nx) ⟨hh, by show nx.length = 3 ^ (k + 1); rw [hn1, e, hl, Nat.pow_succ]; omega, hn2⟩ (by show n - (k + 1) < n - k; omega)
    dsimp only at this
    simp only [go_sem, k2, List.length_map, wk]
    exact this
  have k2 : (i : Int) < ws.length := by omega
  have wi := wrap_nat (n := i) (by omega)
  simp only [go_sem, k2, List.length_map]
  refine iter_ex (fun x : Nat × List ByteArray => x.1 ≤ 3 ∧ x.2.length = 3 * i + x.1 ∧ ∀ w ∈ x.2, w.size = k + 1 ∧ Ltrs w) (fun x => { t := upd (upd (upd (upd (upd (upd e0 7 (.int .i64 (x.1 : Int))) 6 (.int .i64 (i : Int))) 5 (.slc true 1 (x.2.map V.str))) 4 (.int .i64 (k : Int))) 3 (.slc false 1 (ws.map V.str))) 0 (.int .i64 (n : Int)), b := n0, o := [], r := #[ResultVar.tmp 2], f := 30, n := 43 }) Q (fun x => 3 - x.1) ?_ (0, nx) ⟨Nat.zero_le _, hn1, hn2⟩
  rintro ⟨j, nx⟩ ⟨hj, hm1, hm2⟩ ih3
  dsimp only at hj hm1 hm2 ⊢
  by_cases hh3 : j < 3
  rotate_left
  · have k3 : ¬ (j : Int) < 3 := by omega
    have := ih2 (i + 1, nx) ⟨hh2, by show nx.length = 3 * (i + 1); omega, hm2⟩ (by show ws.length - (i + 1) < ws.length - i; omega)
    dsimp only at this
    simp only [go_sem, k3, wi]
    exact this
  have k3 : (j : Int) < 3 := by omega
  have j0 : (0 : Int) ≤ j := by omega
  have i0 : (0 : Int) ≤ i := by omega
  have e3 : (ByteArray.mk #[97, 98, 99]).size = 3 := rfl
  have k4 : ((j + 1 : Nat) : Int) ≤ (ByteArray.mk #[97, 98, 99]).size := by rw [e3]; omega
  have k5 : (j : Int) ≤ ((j + 1 : Nat) : Int) := by omega
  have wj := wrap_nat (n := j) (by omega)
  have hz : (ByteArray.extract ⟨#[97, 98, 99]⟩ j (j + 1)).size = 1 := by rw [ByteArray.size_extract]; omega
  obtain ⟨hw, hwl⟩ := hs _ (List.getElem_mem hh2)
  have hzl : Ltrs (ByteArray.extract ⟨#[97, 98, 99]⟩ j (j + 1)) := by
    obtain rfl | rfl | rfl : j = 0 ∨ j = 1 ∨ j = 2 := by omega
    all_goals
      intro i hi
      have : i = 0 := by omega
      subst this
      rfl
  have q3 : ¬ ((ws[i].size + (ByteArray.extract ⟨#[97, 98, 99]⟩ j (j + 1)).size : Nat) : Int) > 9223372036854775807 := by omega
  have a1 : (nx.length + 1) * 16 ≤ 140737488355328 := by omega
  have := ih3 (j + 1, nx ++ [ws[i] ++ ByteArray.extract ⟨#[97, 98, 99]⟩ j (j + 1)]) ⟨hh3, by simp only [List.length_append, List.length_cons, List.length_nil]; omega, fun w hw' => by
    rcases List.mem_append.1 hw' with h | h
    · exact hm2 w h
    · obtain rfl := List.mem_singleton.1 h
      exact ⟨by rw [ByteArray.size_append]; omega, Ltrs.app hwl hzl⟩⟩ (by show 3 - (j + 1) < 3 - j; omega)
  simp only [List.map_append, List.map_cons, List.map_nil] at this
  simp only [go_sem, k3]
  rw [q_drs]
  rotate_left
  · kernel_rfl
  simp only [go_sem, k2, k4, k5, j0, i0, wj, q3, a1, getD_str hh2, List.length_map, toNat_cast]
  exact this
theorem r9 (n : Nat) (hn : n ≤ 5) : ∃ ws : List ByteArray, ws.length ≤ 10000 ∧ (∀ w ∈ ws, w.size ≤ 5 ∧ Ltrs w) ∧ run EE 9 [.int .i64 n] [] = some (.slc true 1 (ws.map V.str), []) := by
  suffices H : ∀ Q : Rs → Prop, (∀ ws : List ByteArray, ws.length ≤ 10000 → (∀ w ∈ ws, w.size ≤ 5 ∧ Ltrs w) → Q (some (.slc true 1 (ws.map V.str), []))) → Q (run EE 9 [.int .i64 n] []) from
    H (fun x => ∃ ws : List ByteArray, ws.length ≤ 10000 ∧ (∀ w ∈ ws, w.size ≤ 5 ∧ Ltrs w) ∧ x = some (.slc true 1 (ws.map V.str), [])) fun ws h1 h2 => ⟨ws, h1, h2, rfl⟩
  intro Q hQ
  rw [run_eq EE 9 _ _ Try.func9 (by decide +kernel) rfl (show 1 ≤ _ by decide)]
  dsimp only [Try.f9]
  simp only [go_sem]
  refine iter_ex (fun x : Nat × List ByteArray => x.1 ≤ n + 1 ∧ x.2.length ≤ 243 * x.1 ∧ ∀ w ∈ x.2, w.size ≤ 5 ∧ Ltrs w) (fun x => { t := upd (upd (upd e0 4 (.int .i64 (x.1 : Int))) 3 (.slc true 1 (x.2.map V.str))) 0 (.int .i64 (n : Int)), b := n0, o := [], r := #[ResultVar.tmp 2], f := 9, n := 20 }) Q (fun x => n + 1 - x.1) ?_ (0, []) ⟨Nat.zero_le _, Nat.le_refl _, by intro w hw; cases hw⟩
  rintro ⟨k, ws⟩ ⟨hk, hl, hs⟩ ih
  dsimp only at hk hl hs ⊢
  by_cases hh : k ≤ n
  rotate_left
  · have k1 : ¬ (k : Int) ≤ n := by omega
    have fin := hQ ws (by omega) hs
    simp only [go_sem, k1]
    exact fin
  have k1 : (k : Int) ≤ n := by omega
  have k2 : (k : Int) ≤ 5 := by omega
  have wk := wrap_nat (n := k) (by omega)
  obtain ⟨ws2, g1, g2, g3⟩ := r30 k (by omega)
  have a1 : (ws.length + ws2.length) * 16 ≤ 140737488355328 := by omega
  have := ih (k + 1, ws ++ ws2) ⟨by show k + 1 ≤ n + 1; omega, by show (ws ++ ws2).length ≤ _; rw [List.length_append]; omega, fun w hw => by
    rcases List.mem_append.1 hw with h | h
    · exact hs w h
    · exact g2 w h⟩ (by show n + 1 - (k + 1) < n + 1 - k; omega)
  simp only [List.map_append] at this
  simp only [go_sem, k1, k2, g3, a1, wk, List.length_map]
  exact this
end Go.Ev
namespace Go.Ev
open Go Go.Proofs
set_option maxRecDepth 10000
set_option maxHeartbeats 4000000
set_option linter.unusedVariables false
set_option linter.unusedSimpArgs false

theorem run_within (n : Nat) (h : 1 ≤ n) : (decide ((0 : Int) ≤ 0) && decide ((0 : Int) ≤ (n : Int) - 1)) = true := by
  rw [Bool.and_eq_true, decide_eq_true_eq, decide_eq_true_eq]; omega
theorem rv22 (d : DN) (hv : Val d) : run EE 22 [.agg [.slc false 1 (d.accept.map B), .slc false 1 (d.next.map NT)]] [] = some (.bool true, []) := by
  have hd := hv.ok
  have hle := hv.le
  have iv := r22 d.dfa (by show d.accept.length ≤ _; omega) (by show (d.next.map _).length ≤ _; rw [List.length_map, hd.1]; omega) (by
    intro r hr
    obtain ⟨t, _, rfl⟩ := List.mem_map.1 hr
    show 3 ≤ 1048576; decide)
  rw [DN.dfa_enc, hv.valid] at iv
  exact iv
theorem rf31 (d : DN) (hv : Val d) (s : ByteArray) (hs : s.size ≤ 1048576) (hw : isWord s = false) : run EE 31 [.agg [.slc false 1 (d.accept.map B), .slc false 1 (d.next.map NT)], .int .i64 0, .str s] [] = some (.tup [.int .i64 0, .bool false], []) := by
  have hle := hv.le
  have hps := hv.pos
  have iv := rv22 d hv
  have iw := r35 s (by omega)
  rw [hw] at iw
  have ii := r42 0 0 ((d.accept.length : Int) - 1)
  rw [run_within _ hps] at ii
  have w0 : IntKind.i64.wrap ((d.accept.length : Int) - 1) = (d.accept.length : Int) - 1 := wrap_in (by omega) (by omega)
  rw [run_eq EE 31 _ _ Try.func31 (by decide +kernel) rfl (show 3 ≤ _ by decide)]
  dsimp only [Try.f31]
  simp only [go_sem, iv, iw, ii, w0, List.length_map, Bool.not_true, Bool.not_false]
theorem rt31 (d : DN) (hv : Val d) (s : ByteArray) (hs : s.size ≤ 1048576) (hw : isWord s = true) : run EE 31 [.agg [.slc false 1 (d.accept.map B), .slc false 1 (d.next.map NT)], .int .i64 0, .str s] [] = some (.tup [.int .i64 (walk d s 0 0), .bool true], []) := by
  have hle := hv.le
  have hps := hv.pos
  have iv := rv22 d hv
  have iw := r35 s (by omega)
  rw [hw] at iw
  have ii := r42 0 0 ((d.accept.length : Int) - 1)
  rw [run_within _ hps] at ii
  have w0 : IntKind.i64.wrap ((d.accept.length : Int) - 1) = (d.accept.length : Int) - 1 := wrap_in (by omega) (by omega)
  have ha : run EE 23 [.agg [.slc false 1 (d.accept.map B), .slc false 1 (d.next.map NT)], .int .i64 0, .str s] [] = _ := r23 d hv.ok s (by omega) (ltrs_word hw) 0 hps
  rw [run_eq EE 31 _ _ Try.func31 (by decide +kernel) rfl (show 3 ≤ _ by decide)]
  dsimp only [Try.f31]
  simp only [go_sem, iv, iw, ii, w0, List.length_map, Bool.not_true, Bool.not_false, ha]
theorem rf13 (d : DN) (hv : Val d) (s : ByteArray) (hs : s.size ≤ 1048576) (hw : isWord s = false) : run EE 13 [d.enc, .str s] [] = some (.bool (isWord s && accD d s), []) := by
  have key := rf31 d hv s hs hw
  rw [hw]
  simp only [DN.enc]
  rw [run_eq EE 13 _ _ Try.func13 (by decide +kernel) rfl (show 2 ≤ _ by decide)]
  dsimp only [Try.f13]
  simp only [go_sem, key, Bool.false_and]
theorem rt13 (d : DN) (hv : Val d) (s : ByteArray) (hs : s.size ≤ 1048576) (hw : isWord s = true) : run EE 13 [d.enc, .str s] [] = some (.bool (isWord s && accD d s), []) := by
  have key := rt31 d hv s hs hw
  have hlt := walk_lt hv.ok s _ 0 0 (Nat.le_refl _) hv.pos
  have k0 : ((walk d s 0 0 : Nat) : Int) < d.accept.length := by omega
  have hg : ∀ v : V, (d.accept.map B).getD (walk d s 0 0) v = .bool (accD d s) := fun v => by
    rw [List.getD_eq_getElem?_getD, List.getElem?_map, List.getElem?_eq_getElem hlt]
    unfold accD
    rw [List.getD_eq_getElem?_getD, List.getElem?_eq_getElem hlt]
    rfl
  rw [hw]
  simp only [DN.enc]
  rw [run_eq EE 13 _ _ Try.func13 (by decide +kernel) rfl (show 2 ≤ _ by decide)]
  dsimp only [Try.f13]
  simp only [go_sem, key, k0, hg, List.length_map, toNat_cast, Bool.true_and]
theorem r13 (d : DN) (hv : Val d) (s : ByteArray) (hs : s.size ≤ 1048576) : run EE 13 [d.enc, .str s] [] = some (.bool (isWord s && accD d s), []) := by
  cases hw : isWord s with
  | false => rw [← hw]; exact rf13 d hv s hs hw
  | true => rw [← hw]; exact rt13 d hv s hs hw
theorem r29 (l : List Int) (hl : l.length ≤ 1048576) : run EE 29 [.slc false 1 (l.map I), .slc false 1 (l.map I)] [] = some (.bool true, []) := by
  rw [run_eq EE 29 _ _ Try.func29 (by decide +kernel) rfl (show 2 ≤ _ by decide)]
  dsimp only [Try.f29]
  simp only [go_sem, List.length_map, bne_self_eq_false, beq_self_eq_true, Bool.not_true]
  refine iter_inv (fun i : Nat => i ≤ l.length) (fun i => { t := upd (upd (upd e0 5 (.int .i64 i)) 1 (.slc false 1 (l.map I))) 0 (.slc false 1 (l.map I)), b := n0, o := [], r := #[ResultVar.tmp 4], f := 29, n := 26 }) (fun _ => some (.bool true, [])) (fun i => l.length - i) ?_ 0 (Nat.zero_le _)
  intro i hi ih
  by_cases h : i < l.length
  rotate_left
  · have k1 : ¬ (i : Int) < l.length := by omega
    simp only [go_sem, List.length_map, k1]
  have k1 : (i : Int) < l.length := by omega
  have w := wrap_nat (n := i) (by omega)
  have ihn := ih (i + 1) (by omega) (by omega)
  have hg : ∀ v : V, (l.map I).getD i v = I l[i] := fun v => getD_map h v
  simp only [go_sem, List.length_map, k1]
  rw [q_drs]
  rotate_left
  · kernel_rfl
  simp only [go_sem, List.length_map, k1, hg, toNat_cast, w, bne_self_eq_false, beq_self_eq_true, Bool.not_true]
  exact ihn
theorem r8 (x : Dfa) (h1 : x.accept.length ≤ 1048576) (h2 : x.next.length ≤ 1048576) (h3 : ∀ r ∈ x.next, r.length ≤ 1048576) : run EE 8 [x.enc, x.enc] [] = some (.bool true, []) := by
  unfold Dfa.enc
  rw [run_eq EE 8 _ _ Try.func8 (by decide +kernel) rfl (show 2 ≤ _ by decide)]
  dsimp only [Try.f8]
  simp only [go_sem, List.length_map, bne_self_eq_false, beq_self_eq_true, Bool.not_true]
  refine iter_inv (fun i : Nat => i ≤ x.accept.length) (fun i => { t := upd (upd (upd e0 5 (.int .i64 i)) 3 (.ptr 0 3 0)) 2 (.ptr 0 2 0), b := upd (upd n0 3 (some (Ob.box [.slc false 1 (x.accept.map B), .slc false 1 (x.next.map IL)]))) 2 (some (Ob.box [.slc false 1 (x.accept.map B), .slc false 1 (x.next.map IL)])), o := [], r := #[ResultVar.tmp 4], f := 8, n := 60 }) (fun _ => some (.bool true, [])) (fun i => x.accept.length - i) ?_ 0 (Nat.zero_le _)
  intro i hi ih
  by_cases h : i < x.accept.length
  · have k1 : (i : Int) < x.accept.length := by omega
    have w := wrap_nat (n := i) (by omega)
    have ihn := ih (i + 1) (by omega) (by omega)
    have hg : ∀ v : V, (x.accept.map B).getD i v = B x.accept[i] := fun v => getD_map h v
    simp only [go_sem, List.length_map, k1]
    rw [q_drs]
    rotate_left
    · kernel_rfl
    simp only [go_sem, List.length_map, k1, hg, toNat_cast, w, bne_self_eq_false, beq_self_eq_true, Bool.not_true]
    exact ihn
  have k1 : ¬ (i : Int) < x.accept.length := by omega
  clear ih
  simp only [go_sem, List.length_map, k1]
  refine iter_inv (fun i : Nat => i ≤ x.next.length) (fun i => { t := upd (upd (upd e0 6 (.int .i64 i)) 3 (.ptr 0 3 0)) 2 (.ptr 0 2 0), b := upd (upd n0 3 (some (Ob.box [.slc false 1 (x.accept.map B), .slc false 1 (x.next.map IL)]))) 2 (some (Ob.box [.slc false 1 (x.accept.map B), .slc false 1 (x.next.map IL)])), o := [], r := #[ResultVar.tmp 4], f := 8, n := 60 }) (fun _ => some (.bool true, [])) (fun i => x.next.length - i) ?_ 0 (Nat.zero_le _)
  intro i hi ih
  by_cases h : i < x.next.length
  rotate_left
  · have k1 : ¬ (i : Int) < x.next.length := by omega
    simp only [go_sem, List.length_map, k1]
  have k1 : (i : Int) < x.next.length := by omega
  have w := wrap_nat (n := i) (by omega)
  have ihn := ih (i + 1) (by omega) (by omega)
  have hg : ∀ v : V, (x.next.map IL).getD i v = IL x.next[i] := fun v => getD_map h v
  have hq := r29 x.next[i] (h3 _ (List.getElem_mem h))
  simp only [go_sem, List.length_map, k1]
  rw [q_drs]
  rotate_left
  · kernel_rfl
  simp only [go_sem, List.length_map, k1, hg, toNat_cast, hq, IL, w]
  exact ihn
theorem r4 (l : List Int) (hl : l.length ≤ 9223372036854775807) : run EE 4 [.slc false 1 (l.map U8)] [] = some (.bool (decide ((l.length : Int) > 1048576)), []) := by
  rw [run_eq EE 4 _ _ Try.func4 (by decide +kernel) rfl (show 1 ≤ _ by decide)]
  dsimp only [Try.f4]
  simp only [go_sem, List.length_map]
end Go.Ev
namespace Go.Ev
open Go Go.Proofs
set_option maxRecDepth 10000
set_option maxHeartbeats 4000000
set_option linter.unusedVariables false
set_option linter.unusedSimpArgs false

def imgF (m : Mor) (c : Int) : ByteArray × Bool := (if c = 97 then m.a else if c = 98 then m.b else if c = 99 then m.c else ⟨#[]⟩, decide (c = 97) || (decide (c = 98) || decide (c = 99)))
theorem imgF_le {m : Mor} (h1 : m.a.size ≤ 1048576) (h2 : m.b.size ≤ 1048576) (h3 : m.c.size ≤ 1048576) (c : Int) : (imgF m c).1.size ≤ 1048576 := by
  unfold imgF
  dsimp only
  split
  · exact h1
  split
  · exact h2
  split
  · exact h3
  · decide
theorem imgF_img (m : Mor) (s : ByteArray) : (fun i : Nat => if (imgF m (bt s i)).2 = true then (imgF m (bt s i)).1 else one s i) = imgM m s := by
  funext i
  unfold imgF imgM
  by_cases c1 : bt s i = 97
  · simp [c1]
  by_cases c2 : bt s i = 98
  · simp [c2]
  by_cases c3 : bt s i = 99
  · simp [c3]
  · simp [c1, c2, c3]
theorem r33 (c : Int) (m : Mor) (b' o : Nat → Option Ob) (h : o 2 = some (Ob.box [.str m.a, .str m.b, .str m.c])) : run EE 33 [.int .u8 c, .ptr 0 2 0] [b', o] = some (.tup [.str (imgF m c).1, .bool (imgF m c).2], [b', o]) := by
  unfold imgF
  rw [run_eq EE 33 _ _ Try.func33 (by decide +kernel) rfl (show 2 ≤ _ by decide)]
  dsimp only [Try.f33]
  by_cases c1 : c = 97
  · simp only [go_sem, c1, h, decide_true, Bool.true_or, if_true]
  have d1 : (c == 97) = false := by simpa using c1
  by_cases c2 : c = 98
  · simp only [go_sem, c1, c2, h, decide_true, decide_false, Bool.true_or, Bool.false_or, if_true, if_false, Int.reduceEq, Int.reduceBEq]
  have d2 : (c == 98) = false := by simpa using c2
  by_cases c3 : c = 99
  · simp only [go_sem, c1, c2, c3, h, decide_true, decide_false, Bool.true_or, Bool.false_or, if_true, if_false, Int.reduceEq, Int.reduceBEq]
  have d3 : (c == 99) = false := by simpa using c3
  simp only [go_sem, c1, c2, c3, d1, d2, d3, decide_false, Bool.false_or, if_false]
theorem r132 (s : ByteArray) (g a : Nat) (F : Int → ByteArray × Bool) (o : Nat → Option Ob) (hs : s.size ≤ 9223372036854775806) (hb : ∀ c, (F c).1.size ≤ 1048576)
    (ho : ∀ vs, EE.orc g vs = none) (hu : (EE.H g).uniq = []) (hF : ∀ (c : Int) (b' : Nat → Option Ob), 0 ≤ c → c < 256 → run EE g [.int .u8 c, .ptr 0 a 0] [b', o] = some (.tup [.str (F c).1, .bool (F c).2], [b', o])) :
    run EE 32 [.str s, .fn g [.ptr 0 a 0]] [o] = some (.str (repl (fun i => if (F (bt s i)).2 = true then (F (bt s i)).1 else one s i) s 0 ⟨#[]⟩), [o]) := by
  rw [run_eq EE 32 _ _ Try.func32 (by decide +kernel) rfl (show 2 ≤ _ by decide)]
  dsimp only [Try.f32]
  simp only [go_sem]
  refine iter_inv (fun x : Nat × ByteArray => x.2.size ≤ 1048576) (fun x => { t := upd (upd (upd (upd e0 6 (.int .i64 x.1)) 5 (.slc true 1 (bytesV x.2))) 1 (.fn g [.ptr 0 a 0])) 0 (.str s), b := n0, o := [o], r := #[ResultVar.tmp 4], f := 32, n := 39 }) (fun x => some (.str (repl (fun i => if (F (bt s i)).2 = true then (F (bt s i)).1 else one s i) s x.1 x.2), [o])) (fun x => s.size - x.1) ?_ (0, ⟨#[]⟩) (by decide)
  rintro ⟨i, out⟩ hi ih
  dsimp only at hi ⊢
  by_cases h : i < s.size
  · have h1 : (i : Int) < s.size := by omega
    have w := wrap_nat (n := i) (by omega)
    have f1 := hF (bt s i) n0 (bt_nonneg s i) (bt_lt s i)
    have b1 := hb (bt s i)
    have o1 := one_size s i h
    rw [repl_next h]
    simp only [go_sem, h1, ho, hu, f1]
    refine condL_bool (fun k => ?_) (fun k => ?_)
    · have a1 : (out.size + (F (bt s i)).1.size) * 1 ≤ 140737488355328 := by omega
      rw [if_pos k]
      simp only [go_sem, k, a1, ← bytesV_append, bytesV_len]
      refine condL_dec (fun z => ?_) (fun z => ?_)
      · have z' : (out ++ (F (bt s i)).1).size > 1048576 := by omega
        rw [if_pos z']
        simp only [go_sem]
      · have z' : ¬ (out ++ (F (bt s i)).1).size > 1048576 := by omega
        rw [if_neg z']
        simp only [go_sem, w]
        exact ih (i + 1, out ++ (F (bt s i)).1) (by show (out ++ (F (bt s i)).1).size ≤ 1048576; omega) (by show s.size - (i + 1) < s.size - i; omega)
    · have k' : ¬ (F (bt s i)).2 = true := by rw [k]; decide
      have a1 : (out.size + 1) * 1 ≤ 140737488355328 := by omega
      have e1 : bytesV out ++ [.int .u8 (bt s i)] = bytesV (out ++ one s i) := by rw [bytesV_append]; exact congrArg _ (bytesV_one s i h).symm
      rw [if_neg k']
      simp only [go_sem, k, h1, a1, e1, bytesV_len]
      refine condL_dec (fun z => ?_) (fun z => ?_)
      · have z' : (out ++ one s i).size > 1048576 := by omega
        rw [if_pos z']
        simp only [go_sem]
      · have z' : ¬ (out ++ one s i).size > 1048576 := by omega
        rw [if_neg z']
        simp only [go_sem, w]
        exact ih (i + 1, out ++ one s i) (by show (out ++ one s i).size ≤ 1048576; omega) (by show s.size - (i + 1) < s.size - i; omega)
  · have h1 : ¬ (i : Int) < s.size := by omega
    rw [repl_end h]
    simp only [go_sem, h1, u8_bytesV, ofInts_bytesV]
theorem r14 (m : Mor) (s : ByteArray) (hs : s.size ≤ 9223372036854775806) (h1 : m.a.size ≤ 1048576) (h2 : m.b.size ≤ 1048576) (h3 : m.c.size ≤ 1048576) : run EE 14 [m.enc, .str s] [] = some (.str (appM m s), []) := by
  have key := r132 s 33 2 (imgF m) (upd n0 2 (some (Ob.box [.str m.a, .str m.b, .str m.c]))) hs (fun c => imgF_le h1 h2 h3 c) (fun _ => o33 _) rfl
    (fun x b' _ _ => r33 x m b' _ rfl)
  rw [imgF_img] at key
  unfold appM
  rw [run_eq EE 14 _ _ Try.func14 (by decide +kernel) rfl (show 2 ≤ _ by decide)]
  dsimp only [Try.f14]
  simp only [go_sem, key]
end Go.Ev
namespace Go.Ev
open Go Go.Proofs
set_option maxRecDepth 10000
set_option maxHeartbeats 4000000
set_option linter.unusedVariables false
set_option linter.unusedSimpArgs false

def compM (m n : Mor) : V := if isMor m = true ∧ isMor n = true ∧ isMor (comp2 m n) = true then .tup [(comp2 m n).enc, .bool true] else .tup [.agg [.str ⟨#[]⟩, .str ⟨#[]⟩, .str ⟨#[]⟩], .bool false]
theorem r12 (m n : Mor) (h1 : m.a.size ≤ 4 ∧ m.b.size ≤ 4 ∧ m.c.size ≤ 4) (h2 : n.a.size ≤ 4 ∧ n.b.size ≤ 4 ∧ n.c.size ≤ 4) : run EE 12 [m.enc, n.enc] [] = some (compM m n, []) := by
  have i1 := r18 m (by omega) (by omega) (by omega)
  have i2 := r18 n (by omega) (by omega) (by omega)
  have i3 := r18 (comp2 m n) (appM_le n m.a) (appM_le n m.b) (appM_le n m.c)
  have a1 := r16 n m.a (by omega) (by omega) (by omega) (by omega)
  have a2 := r16 n m.b (by omega) (by omega) (by omega) (by omega)
  have a3 := r16 n m.c (by omega) (by omega) (by omega) (by omega)
  unfold Mor.enc at i1 i2 i3 a1 a2 a3
  unfold comp2 at i3
  dsimp only at i3
  generalize hRES : some (compM m n, ([] : List (Nat → Option Ob))) = RES
  unfold compM comp2 Mor.enc at hRES
  dsimp only at hRES
  generalize appM n m.a = x at i3 a1 hRES
  generalize appM n m.b = y at i3 a2 hRES
  generalize appM n m.c = z at i3 a3 hRES
  unfold Mor.enc
  rw [run_eq EE 12 _ _ Try.func12 (by decide +kernel) rfl (show 2 ≤ _ by decide)]
  dsimp only [Try.f12]
  cases c1 : isMor m with
  | false =>
    rw [c1] at i1 hRES
    simp only [go_sem, i1, Bool.not_false]
    exact hRES
  | true =>
    cases c2 : isMor n with
    | false =>
      rw [c1] at i1 hRES
      rw [c2] at i2 hRES
      simp only [go_sem, i1, i2, Bool.not_true, Bool.not_false]
      exact hRES
    | true =>
      rw [c1] at i1 hRES
      rw [c2] at i2 hRES
      simp only [go_sem, i1, i2, Bool.not_true, Bool.not_false]
      rw [q_drawn]
      rotate_left
      · kernel_rfl
      cases c3 : isMor ⟨x, y, z⟩ with
      | false =>
        rw [c3] at i3 hRES
        simp only [go_sem, still, i3, a1, a2, a3, Bool.not_true, Bool.not_false, eq_self]
        exact hRES
      | true =>
        rw [c3] at i3 hRES
        simp only [go_sem, still, i3, a1, a2, a3, Bool.not_true, Bool.not_false, eq_self]
        exact hRES
theorem r11 (m n : Mor) (h1 : m.a.size ≤ 4 ∧ m.b.size ≤ 4 ∧ m.c.size ≤ 4) (h2 : n.a.size ≤ 4 ∧ n.b.size ≤ 4 ∧ n.c.size ≤ 4) : run EE 11 [m.enc, n.enc] [] = some (compM m n, []) := by
  have i1 := r17 m (by omega) (by omega) (by omega)
  have i2 := r17 n (by omega) (by omega) (by omega)
  have i3 := r17 (comp2 m n) (appM_le n m.a) (appM_le n m.b) (appM_le n m.c)
  have a1 := r14 n m.a (by omega) (by omega) (by omega) (by omega)
  have a2 := r14 n m.b (by omega) (by omega) (by omega) (by omega)
  have a3 := r14 n m.c (by omega) (by omega) (by omega) (by omega)
  unfold Mor.enc at i1 i2 i3 a1 a2 a3
  unfold comp2 at i3
  dsimp only at i3
  generalize hRES : some (compM m n, ([] : List (Nat → Option Ob))) = RES
  unfold compM comp2 Mor.enc at hRES
  dsimp only at hRES
  generalize appM n m.a = x at i3 a1 hRES
  generalize appM n m.b = y at i3 a2 hRES
  generalize appM n m.c = z at i3 a3 hRES
  unfold Mor.enc
  rw [run_eq EE 11 _ _ Try.func11 (by decide +kernel) rfl (show 2 ≤ _ by decide)]
  dsimp only [Try.f11]
  simp only [go_sem]
  rw [q_drawn]
  rotate_left
  · kernel_rfl
  simp only [go_sem, still, a1, a2, a3, eq_self]
  cases c1 : isMor m with
  | false =>
    rw [c1] at i1 hRES
    simp only [go_sem, i1, Bool.not_false]
    exact hRES
  | true =>
    cases c2 : isMor n with
    | false =>
      rw [c1] at i1 hRES
      rw [c2] at i2 hRES
      simp only [go_sem, i1, i2, Bool.not_true, Bool.not_false]
      exact hRES
    | true =>
      rw [c1] at i1 hRES
      rw [c2] at i2 hRES
      cases c3 : isMor ⟨x, y, z⟩ with
      | false =>
        rw [c3] at i3 hRES
        simp only [go_sem, i1, i2, i3, Bool.not_true, Bool.not_false]
        exact hRES
      | true =>
        rw [c3] at i3 hRES
        simp only [go_sem, i1, i2, i3, Bool.not_true, Bool.not_false]
        exact hRES
end Go.Ev
namespace Go.Ev
open Go Go.Proofs
set_option maxRecDepth 10000
set_option maxHeartbeats 4000000
set_option linter.unusedVariables false
set_option linter.unusedSimpArgs false

theorem eqS8 (d : DN) (hv : Val d) : run EE 8 [.agg [.slc false 1 (d.accept.map B), .slc false 1 (d.next.map NT)], .agg [.slc false 1 (d.accept.map B), .slc false 1 (d.next.map NT)]] [] = some (.bool true, []) := by
  have hd := hv.ok
  have hle := hv.le
  have h := r8 d.dfa (by show d.accept.length ≤ _; omega) (by show (d.next.map _).length ≤ _; rw [List.length_map, hd.1]; omega) (by
    intro r hr
    obtain ⟨t, _, rfl⟩ := List.mem_map.1 hr
    show 3 ≤ 1048576; decide)
  rw [DN.dfa_enc] at h
  exact h
theorem eqE8 : run EE 8 [.agg [.slc false 1 [], .slc false 1 []], .agg [.slc false 1 [], .slc false 1 []]] [] = some (.bool true, []) :=
  r8 ⟨[], []⟩ (by decide) (by decide) (fun r hr => by cases hr)
theorem compM_form (f g : Mor) : ∃ (ok : Bool) (h : Mor), compM f g = .tup [.agg [.str h.a, .str h.b, .str h.c], .bool ok] ∧ (ok = true → isMor f = true ∧ isMor g = true ∧ isMor h = true ∧ h = comp2 f g) := by
  unfold compM
  by_cases h : isMor f = true ∧ isMor g = true ∧ isMor (comp2 f g) = true
  · rw [if_pos h]
    exact ⟨true, comp2 f g, rfl, fun _ => ⟨h.1, h.2.1, h.2.2, rfl⟩⟩
  · rw [if_neg h]
    exact ⟨false, ⟨⟨#[]⟩, ⟨#[]⟩, ⟨#[]⟩⟩, rfl, fun e => by cases e⟩
theorem law3 (l : List Int) (ok : l.length ≤ 9223372036854775807 ∧ okL (l.map (V.int .u8))) : run EE 3 [.slc false 1 (l.map U8)] [] = some (.bool true, []) := by
  have q0 := r4 l ok.1
  generalize hRES : some (V.bool true, ([] : List (Nat → Option Ob))) = RES
  rw [run_eq EE 3 _ _ Try.func3 (by decide +kernel) rfl (show 1 ≤ _ by decide)]
  dsimp only [Try.f3]
  by_cases hb : (l.length : Int) > 1048576
  · rw [decide_eq_true hb] at q0
    simp only [go_sem, q0]
    exact hRES
  rw [decide_eq_false hb] at q0
  obtain ⟨x, m, x1, x2, x3, m1, q1⟩ := r5 l (by omega)
  obtain ⟨f, g, f1, g1, q2⟩ := r10 l (by omega)
  obtain ⟨n, t, n1, t1, q3⟩ := r15 l (by omega)
  obtain ⟨ws, w1, w2, qw⟩ := r9 3 (by decide)
  have qw' : run EE 9 [.int .i64 3] [] = _ := qw
  have qa := r6 x m (by omega) (by omega) (fun r hr => by have := x3 r hr; omega) (by have := m1.1; omega) (by have := m1.2.1; omega) (by have := m1.2.2; omega)
  have qx := r7 x m (by omega) (by omega) (fun r hr => by have := x3 r hr; omega) (by have := m1.1; omega) (by have := m1.2.1; omega) (by have := m1.2.2; omega)
  have qc := r11 f g f1 g1
  have qd := r12 f g f1 g1
  have z1 := r14 n t (by omega) (by have := n1.1; omega) (by have := n1.2.1; omega) (by have := n1.2.2; omega)
  have z2 := r16 n t (by omega) (by have := n1.1; omega) (by have := n1.2.1; omega) (by have := n1.2.2; omega)
  have z3 := r17 n (by have := n1.1; omega) (by have := n1.2.1; omega) (by have := n1.2.2; omega)
  have z4 := r18 n (by have := n1.1; omega) (by have := n1.2.1; omega) (by have := n1.2.2; omega)
  obtain ⟨okB, h, ec, hB⟩ := compM_form f g
  rw [ec] at qc qd
  simp only [Mor.enc, Dfa.enc] at q1 q2 q3 qc qd z1 z2 z3 z4
  by_cases hc : validD x = true ∧ isMor m = true
  rotate_left
  · rw [preR, if_neg hc] at qa qx
    simp only [Mor.enc, Dfa.enc] at qa qx
    have qe := eqE8
    simp only [go_sem, q0, q1, q2, qa, qx, qc, qd, qe, qw', bne_self_eq_false, beq_self_eq_true, List.length_map]
    refine iter_inv (fun k : Nat => k ≤ ws.length) (fun k => { t := upd (upd (upd (upd (upd (upd (upd (upd (upd (upd (upd e0 16 (.int .i64 (k : Int))) 13 (.bool okB)) 12 (.ptr 0 12 0)) 11 (.ptr 0 11 0)) 10 (.ptr 0 10 0)) 9 (.slc false 1 (ws.map V.str))) 6 (.bool false)) 5 (.ptr 0 5 0)) 4 (.ptr 0 4 0)) 3 (.ptr 0 3 0)) 0 (.slc false 1 (l.map U8)), b := upd (upd (upd (upd (upd (upd (upd (upd n0 14 (some (Ob.box [.str h.a, .str h.b, .str h.c]))) 12 (some (Ob.box [.str h.a, .str h.b, .str h.c]))) 11 (some (Ob.box [.str g.a, .str g.b, .str g.c]))) 10 (some (Ob.box [.str f.a, .str f.b, .str f.c]))) 7 (some (Ob.box [.slc false 1 [], .slc false 1 []]))) 5 (some (Ob.box [.slc false 1 [], .slc false 1 []]))) 4 (some (Ob.box [.str m.a, .str m.b, .str m.c]))) 3 (some (Ob.box [.slc false 1 (x.accept.map B), .slc false 1 (x.next.map IL)])), o := [], r := #[ResultVar.tmp 2], f := 3, n := 129 }) (fun _ => RES) (fun k => ws.length - k) ?_ 0 (Nat.zero_le _)
    intro k hk ih
    by_cases hh : k < ws.length
    rotate_left
    · have k1 : ¬ (k : Int) < ws.length := by omega
      simp only [go_sem, k1, q3, List.length_map]
      rw [q_drs]
      rotate_left
      · kernel_rfl
      simp only [go_sem, z1, z2, z3, z4, bne_self_eq_false, beq_self_eq_true]
      exact hRES
    have k1 : (k : Int) < ws.length := by omega
    have k0 : (0 : Int) ≤ k := by omega
    have wk := wrap_nat (n := k) (by omega)
    have ihn := ih (k + 1) hh (by omega)
    obtain ⟨hsz, hlt⟩ := w2 _ (List.getElem_mem hh)
    have hg : ∀ v : V, (ws.map V.str).getD k v = .str ws[k] := getD_str hh
    generalize ws[k] = w at hsz hlt hg
    have hiw : isWord w = true := ltrs_word' hlt (by omega)
    have y1 := r14 m w (by omega) (by have := m1.1; omega) (by have := m1.2.1; omega) (by have := m1.2.2; omega)
    have y5 := r14 f w (by omega) (by have := f1.1; omega) (by have := f1.2.1; omega) (by have := f1.2.2; omega)
    have y6 := r14 g (appM f w) (by have := appM_le f w; omega) (by have := g1.1; omega) (by have := g1.2.1; omega) (by have := g1.2.2; omega)
    simp only [Mor.enc] at y1 y5 y6
    simp only [go_sem, k1, k0, hg, toNat_cast, List.length_map]
    rw [q_drs]
    rotate_left
    · kernel_rfl
    cases okB with
    | false =>
      simp only [go_sem, k1, k0, hg, toNat_cast, List.length_map, wk, bne_self_eq_false]
      exact ihn
    | true =>
      obtain ⟨i1, i2, i3, rfl⟩ := hB rfl
      have y4 := r14 (comp2 f g) w (by omega) (appM_le g f.a) (appM_le g f.b) (appM_le g f.c)
      rw [app_comp i1 i2 i3 (by omega)] at y4
      simp only [Mor.enc] at y4
      simp only [go_sem, k1, k0, hg, toNat_cast, List.length_map, y4, y5, y6, bne_self_eq_false, wk]
      exact ihn
  rw [preR, if_pos hc] at qa qx
  obtain ⟨ex, hv⟩ := validD_dn hc.1
  have hm := hc.2
  have v1 : Val (quotS (preD x.dn m) 0) := quotS_val (preD_val hv m) (preD_val hv m).pos
  have hacc := fun w hw hz => acc_pre hv hm (w := w) hw hz
  have ed : x.enc = x.dn.enc := by rw [← DN.dfa_enc, ← ex]
  simp only [Dfa.enc, DN.enc, V.agg.injEq, List.cons.injEq, V.slc.injEq, true_and, and_true] at ed
  obtain ⟨ed1, ed2⟩ := ed
  generalize x.dn = d at hv hacc ed1 ed2 qa qx v1
  clear ex
  generalize quotS (preD d m) 0 = da at v1 hacc qa qx
  have qe := eqS8 da v1
  simp only [DN.encD, Mor.enc, Dfa.enc] at qa qx
  simp only [go_sem, q0, q1, q2, qa, qx, qc, qd, qe, qw', bne_self_eq_false, beq_self_eq_true, List.length_map]
  refine iter_inv (fun k : Nat => k ≤ ws.length) (fun k => { t := upd (upd (upd (upd (upd (upd (upd (upd (upd (upd (upd e0 16 (.int .i64 (k : Int))) 13 (.bool okB)) 12 (.ptr 0 12 0)) 11 (.ptr 0 11 0)) 10 (.ptr 0 10 0)) 9 (.slc false 1 (ws.map V.str))) 6 (.bool true)) 5 (.ptr 0 5 0)) 4 (.ptr 0 4 0)) 3 (.ptr 0 3 0)) 0 (.slc false 1 (l.map U8)), b := upd (upd (upd (upd (upd (upd (upd (upd n0 14 (some (Ob.box [.str h.a, .str h.b, .str h.c]))) 12 (some (Ob.box [.str h.a, .str h.b, .str h.c]))) 11 (some (Ob.box [.str g.a, .str g.b, .str g.c]))) 10 (some (Ob.box [.str f.a, .str f.b, .str f.c]))) 7 (some (Ob.box [.slc true 1 (da.accept.map B), .slc true 1 (da.next.map NT)]))) 5 (some (Ob.box [.slc true 1 (da.accept.map B), .slc true 1 (da.next.map NT)]))) 4 (some (Ob.box [.str m.a, .str m.b, .str m.c]))) 3 (some (Ob.box [.slc false 1 (x.accept.map B), .slc false 1 (x.next.map IL)])), o := [], r := #[ResultVar.tmp 2], f := 3, n := 129 }) (fun _ => RES) (fun k => ws.length - k) ?_ 0 (Nat.zero_le _)
  intro k hk ih
  by_cases hh : k < ws.length
  rotate_left
  · have k1 : ¬ (k : Int) < ws.length := by omega
    simp only [go_sem, k1, q3, List.length_map]
    rw [q_drs]
    rotate_left
    · kernel_rfl
    simp only [go_sem, z1, z2, z3, z4, bne_self_eq_false, beq_self_eq_true]
    exact hRES
  have k1 : (k : Int) < ws.length := by omega
  have k0 : (0 : Int) ≤ k := by omega
  have wk := wrap_nat (n := k) (by omega)
  have ihn := ih (k + 1) hh (by omega)
  obtain ⟨hsz, hlt⟩ := w2 _ (List.getElem_mem hh)
  have hg : ∀ v : V, (ws.map V.str).getD k v = .str ws[k] := getD_str hh
  generalize ws[k] = w at hsz hlt hg
  have hiw : isWord w = true := ltrs_word' hlt (by omega)
  have y1 := r14 m w (by omega) (by have := m1.1; omega) (by have := m1.2.1; omega) (by have := m1.2.2; omega)
  have y5 := r14 f w (by omega) (by have := f1.1; omega) (by have := f1.2.1; omega) (by have := f1.2.2; omega)
  have y6 := r14 g (appM f w) (by have := appM_le f w; omega) (by have := g1.1; omega) (by have := g1.2.1; omega) (by have := g1.2.2; omega)
  simp only [Mor.enc] at y1 y5 y6
  simp only [go_sem, k1, k0, hg, toNat_cast, List.length_map]
  rw [q_drs]
  rotate_left
  · kernel_rfl
  have p1 := r13 da v1 w (by omega)
  have p2 := r13 d hv (appM m w) (by have := appM_le m w; omega)
  have hsz2 := appM_size hm (s := w) (by omega)
  rw [ltrs_word' (appM_ltrs hm hlt) (by omega), Bool.true_and, ← hacc w hlt (by omega)] at p2
  rw [hiw, Bool.true_and] at p1
  simp only [DN.enc] at p1 p2
  rw [← ed1, ← ed2] at p2
  cases okB with
  | false =>
    simp only [go_sem, k1, k0, hg, toNat_cast, List.length_map, wk, p1, p2, y1, bne_self_eq_false]
    exact ihn
  | true =>
    obtain ⟨i1, i2, i3, rfl⟩ := hB rfl
    have y4 := r14 (comp2 f g) w (by omega) (appM_le g f.a) (appM_le g f.b) (appM_le g f.c)
    rw [app_comp i1 i2 i3 (by omega)] at y4
    simp only [Mor.enc] at y4
    simp only [go_sem, k1, k0, hg, toNat_cast, List.length_map, p1, p2, y1, y4, y5, y6, bne_self_eq_false, wk]
    exact ihn
end Go.Ev
namespace Go.Ev.Op
open Go Go.Proofs Go.RowKit Go.Ev
set_option maxRecDepth 10000
set_option linter.unusedVariables false
set_option linter.unusedSimpArgs false
theorem un5 : Try.prog.underlying 5 = some (.int .u8) := by kernel_rfl
theorem ce5 : Try.prog.cellsOf 5 = 1 := by kernel_rfl
theorem un22 : Try.prog.underlying 22 = some (.slice 5) := by kernel_rfl
theorem ce22 : Try.prog.cellsOf 22 = 1 := by kernel_rfl
theorem ag5 : isAgg Try.prog 5 = false := by kernel_rfl
theorem ty22 : ∀ (n : Nat) (vs : List V), TyOk Try.prog n 22 vs → ∃ l : List Int, vs = [.slc false 1 (l.map (V.int .u8))] ∧ l.length ≤ 9223372036854775807 ∧ okL (l.map (V.int .u8)) := by
  intro n vs h
  cases n with
  | zero => cases h
  | succ n =>
    obtain ⟨l, h1, h2, h3⟩ := tyOk_slc un22 (f := (V.int .u8)) (fun us hu => ty_int1 ag5 un5 hu) h
    rw [ce5] at h1
    exact ⟨l, h1, h2, h3⟩
theorem closed : closedT Try.prog [5, 22] = true := by kernel_rfl
end Go.Ev.Op
