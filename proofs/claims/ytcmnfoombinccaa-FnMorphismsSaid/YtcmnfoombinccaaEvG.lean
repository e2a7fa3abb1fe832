/- Lists that nobody else sees, settled and made objects. -/
import Derived.Test.YtcmnfoombinccaaEvF
import Derived.Test.YtcmnfoombinccaaEvE
set_option linter.unusedVariables false
set_option linter.unusedSimpArgs false
namespace Go.Ev
open Go
set_option linter.unusedVariables false
set_option linter.unusedSimpArgs false
variable {P : Program} {G : Gh} {s : St} {a : Act} {w : World} {o : Oper}
variable {d : Option Nat} {ty : TypeId} {pos : String} {af : Array Edge} {gd : Option (Nat × Bool)}

/-! ### settled -/
theorem ice_pure {v : V} (h : pureC v = true) : v.ice = v := by
  cases v
  case uq => cases h
  case agg => cases h
  all_goals rw [V.ice]
theorem flat_ice (v : V) : v.ice.flat = v.flat.map V.ice := by
  cases v
  case agg l => rw [ice_agg]; rfl
  case uq sz l => rw [ice_uq]; show [_] = [V.ice (.uq sz l)]; rw [ice_uq]
  all_goals (simp [V.ice, V.flat])
theorem getD_ice (l : List V) (i : Nat) : (l.map V.ice).getD i .undef = (l.getD i .undef).ice := by
  simp only [List.getD_eq_getElem?_getD, List.getElem?_map]
  cases l[i]? <;> simp [V.ice]
theorem DTs.ice {S S' β} {w : World} {bs : List Nat} {l : List V} {xs : List Value} (h : DTs S β w bs l xs) (hle : ∀ g j c, S g j = some c → S' g j = some c)
    (hb : ∀ b ∈ bs, ∀ cs ty n, w.heap[b]? = some (.cells cs ty n) → ∀ j, j < cs.size → S' b j = some (cs.getD j undef)) :
    ∀ k, k < l.length → Tr S' β (l.getD k .undef).ice (xs.getD k undef) ∧ pureC (l.getD k .undef).ice = true := by
  induction h with
  | nil => intro k hk; exact absurd hk (Nat.not_lt_zero _)
  | leaf hp h k ih =>
    intro j hj
    cases j with
    | zero =>
      show Tr S' β (V.ice _) _ ∧ pureC (V.ice _) = true
      rw [show ∀ a : V, ∀ m : List V, (a :: m).getD 0 .undef = a from fun _ _ => rfl, ice_pure hp]
      exact ⟨h.mono hle (fun _ _ _ e => e), hp⟩
    | succ j => exact ih hb j (by simpa using hj)
  | emp k ih =>
    intro j hj
    cases j with
    | zero =>
      rw [show ∀ a : V, ∀ m : List V, (a :: m).getD 0 .undef = a from fun _ _ => rfl, ice_uq]
      exact ⟨.slc0 _ _ _, rfl⟩
    | succ j => exact ih hb j (by simpa using hj)
  | @blk bs1 bs2 sz m g cs ty cap l xs hg hc hm hs hS hk k ih1 ih2 =>
    intro j hj
    have i1 := ih1 fun b hb' => hb b (List.mem_cons_of_mem _ (List.mem_append_left _ hb'))
    cases j with
    | zero =>
      rw [show ∀ a : V, ∀ m : List V, (a :: m).getD 0 .undef = a from fun _ _ => rfl, ice_uq]
      refine ⟨?_, rfl⟩
      have hlen := flat_len hs
      have cell : ∀ p q, p < m.length → q < sz → Tr S' β ((m.getD p .undef).flat.getD q .undef).ice (cs.getD (p * sz + q) undef) ∧ pureC ((m.getD p .undef).flat.getD q .undef).ice = true := fun p q hp hq => by
        have hlt := cell_lt hp hq
        have := i1 (p * sz + q) (by rw [hlen]; exact hlt)
        rw [flat_getD hs p q hp hq] at this
        have e : (cs.toList.take (m.length * sz)).getD (p * sz + q) undef = cs.getD (p * sz + q) undef := by
          simp only [List.getD_eq_getElem?_getD, List.getElem?_take, if_pos hlt, Array.getD_eq_getD_getElem?]
          simp
        rw [e] at this
        exact this
      have hmi : (m.map V.ice).length = m.length := List.length_map _
      have key : Tr S' β (.slc false sz (m.map V.ice)) (.slice (some ⟨g, 0, none⟩) (m.map V.ice).length cap) := by
        refine Tr.slc sz (m.map V.ice) g 0 cap (fun p q => cs.getD (p * sz + q) undef) (by rw [hmi]; exact hm) (fun x hx => ?_) (fun p q hp hq => ?_) (fun p q hp hq => ?_)
        · obtain ⟨y, hy, rfl⟩ := List.mem_map.1 hx
          rw [flat_ice, List.length_map]
          refine ⟨hs y hy, List.all_eq_true.2 fun z hz => ?_⟩
          obtain ⟨u, hu, rfl⟩ := List.mem_map.1 hz
          obtain ⟨p, hp, rfl⟩ := List.getElem_of_mem hy
          obtain ⟨q, hq, rfl⟩ := List.getElem_of_mem hu
          have := (cell p q hp (by rw [← hs _ hy]; exact hq)).2
          simpa [List.getD_eq_getElem?_getD, List.getElem?_eq_getElem hp, List.getElem?_eq_getElem hq] using this
        · rw [hmi] at hp
          have hlt := cell_lt hp hq
          have hle' : m.length * sz ≤ cs.size := by rw [hc]; exact Nat.mul_le_mul_right _ hm
          rw [Nat.zero_add]
          exact hb g (List.mem_cons_self ..) _ _ _ hg _ (by omega)
        · rw [hmi] at hp
          rw [getD_ice, flat_ice, getD_ice]
          exact (cell p q hp hq).1
      rw [hmi] at key
      exact key
    | succ j => exact ih2 (fun b hb' => hb b (List.mem_cons_of_mem _ (List.mem_append_right _ hb'))) j (by simpa using hj)
/-- what is in some blocks, for good -/
def rowAt (w : World) (k j : Nat) : Option Value := match w.heap[k]? with
  | some (.cells cs _ _) => cs[j]?
  | _ => none
def Gh.ices (G : Gh) (w : World) (bs : List Nat) : Gh where
  S := fun k j => if k ∈ bs then rowAt w k j else G.S k j
  β := G.β
  ω := G.ω
theorem settle_one (himm : ∀ g j c, G.S g j = some c → w.cell? ⟨g, j, none⟩ = some c) {p : Pl} {sz : Nat} {l : List V} {x : Value} (h : OwnU G w p sz l x) :
    ∃ G', Le G G' ∧ G'.β = G.β ∧ G'.ω = G.ω ∧ (∀ k, G.ω k ≠ some p → ∀ j, G'.S k j = G.S k j) ∧ (∀ g j c, G'.S g j = some c → w.cell? ⟨g, j, none⟩ = some c) ∧ OwnC G' w p (.slc true sz (l.map V.ice)) x := by
  obtain ⟨a, cap, rfl, ⟨rfl, rfl⟩ | ⟨g, cs, cty, bs, rfl, hn, hω, hg, hcs, hlc, hs, hS, hk⟩⟩ := h.inv
  · exact ⟨G, Le.refl _, rfl, rfl, fun _ _ _ => rfl, himm, Tr.slc0 _ _ _, a, 0, rfl, .inl rfl⟩
  · have hgb : g ∉ bs := (List.nodup_cons.1 hn).1
    have hSb : ∀ b ∈ bs, ∀ j, G.S b j = none := by
      have aux : ∀ {bs l xs}, DTs G.S G.β w bs l xs → ∀ b ∈ bs, ∀ j, G.S b j = none := by
        intro bs l xs h
        induction h with
        | nil => intro b hb; cases hb
        | leaf _ _ _ ih => exact ih
        | emp _ ih => exact ih
        | blk _ _ _ _ hS _ _ ih1 ih2 =>
          intro b hb j
          rcases List.mem_cons.1 hb with rfl | hb
          · exact hS j
          · rcases List.mem_append.1 hb with hb | hb
            · exact ih1 b hb j
            · exact ih2 b hb j
      exact aux hk
    have hle1 : Le G (G.ices w bs) := ⟨fun k j c hc => by
      show (if k ∈ bs then _ else _) = _
      rw [if_neg (fun e => by rw [hSb k e j] at hc; cases hc)]; exact hc, fun _ _ _ e => e⟩
    have hle : Le G ((G.ices w bs).ice g (l.length * sz) cs) := ⟨fun k j c hc => by
      show (if k = g ∧ j < _ then _ else _) = _
      rw [if_neg (by rintro ⟨rfl, _⟩; rw [hS j] at hc; cases hc)]; exact hle1.S _ _ _ hc, fun _ _ _ e => e⟩
    have hsz : l.length * sz ≤ cs.size := by rw [hcs]; exact Nat.mul_le_mul_right _ hlc
    have hice := hk.ice (S' := ((G.ices w bs).ice g (l.length * sz) cs).S) hle.S (fun b hb cs' ty' n' hg' j hj => by
      show (if b = g ∧ j < _ then _ else _) = _
      rw [if_neg (by rintro ⟨rfl, _⟩; exact hgb hb)]
      show (if b ∈ bs then _ else _) = _
      rw [if_pos hb, rowAt, hg']
      show cs'[j]? = _
      rw [Array.getElem?_eq_getElem hj, getD_array_of hj])
    have hmi : (l.map V.ice).length = l.length := List.length_map _
    have hlen := flat_len hs
    have cell : ∀ p q, p < l.length → q < sz → Tr ((G.ices w bs).ice g (l.length * sz) cs).S G.β ((l.getD p .undef).flat.getD q .undef).ice (cs.getD (p * sz + q) undef) ∧ pureC ((l.getD p .undef).flat.getD q .undef).ice = true := fun p q hp hq => by
      have hlt := cell_lt hp hq
      have := hice (p * sz + q) (by rw [hlen]; exact hlt)
      rw [flat_getD hs p q hp hq] at this
      have e : (cs.toList.take (l.length * sz)).getD (p * sz + q) undef = cs.getD (p * sz + q) undef := by
        simp only [List.getD_eq_getElem?_getD, List.getElem?_take, if_pos hlt, Array.getD_eq_getD_getElem?]
        simp
      rw [e] at this
      exact this
    refine ⟨(G.ices w bs).ice g (l.length * sz) cs, hle, rfl, rfl, fun k hk' j => ?_, fun k j c hc => ?_, ?_, some ⟨g, 0, none⟩, cap, by rw [hmi], .inr ⟨g, cs, cty, rfl, hω g (List.mem_cons_self ..), hg, hcs, fun j hj => ?_⟩⟩
    · show (if k = g ∧ j < _ then _ else _) = _
      rw [if_neg (by rintro ⟨rfl, _⟩; exact hk' (hω k (List.mem_cons_self ..)))]
      show (if k ∈ bs then _ else _) = _
      rw [if_neg (fun e => hk' (hω k (List.mem_cons_of_mem _ e)))]
    · have hc' : (if k = g ∧ j < l.length * sz then cs[j]? else (if k ∈ bs then rowAt w k j else G.S k j)) = some c := hc
      split at hc'
      · rename_i hk; obtain ⟨rfl, _⟩ := hk; simp only [World.cell?, hg]; exact hc'
      · split at hc'
        · unfold rowAt at hc'
          split at hc'
          · rename_i hh; simp only [World.cell?, hh]; exact hc'
          · cases hc'
        · exact himm _ _ _ hc'
    · have key : Tr ((G.ices w bs).ice g (l.length * sz) cs).S G.β (.slc false sz (l.map V.ice)) (.slice (some ⟨g, 0, none⟩) (l.map V.ice).length cap) := by
        refine Tr.slc sz (l.map V.ice) g 0 cap (fun i j => cs.getD (i * sz + j) Go.undef) (by rw [hmi]; exact hlc) (fun x hx => ?_) (fun i j hi hj => ?_) (fun i j hi hj => ?_)
        · obtain ⟨y, hy, rfl⟩ := List.mem_map.1 hx
          rw [flat_ice, List.length_map]
          refine ⟨hs y hy, List.all_eq_true.2 fun z hz => ?_⟩
          obtain ⟨u, hu, rfl⟩ := List.mem_map.1 hz
          obtain ⟨p, hp, rfl⟩ := List.getElem_of_mem hy
          obtain ⟨q, hq, rfl⟩ := List.getElem_of_mem hu
          have := (cell p q hp (by rw [← hs _ hy]; exact hq)).2
          simpa [List.getD_eq_getElem?_getD, List.getElem?_eq_getElem hp, List.getElem?_eq_getElem hq] using this
        · rw [hmi] at hi
          have h5 := cell_lt hi hj
          show (if g = g ∧ 0 + i * sz + j < l.length * sz then cs[0 + i * sz + j]? else _) = _
          rw [if_pos ⟨rfl, by omega⟩, Nat.zero_add, Array.getElem?_eq_getElem (by omega), getD_array_of (by omega)]
        · rw [hmi] at hi
          rw [getD_ice, flat_ice, getD_ice]
          exact (cell i j hi hj).1
      rw [hmi] at key
      exact key
    · rw [hmi] at hj
      show (if g = g ∧ j < l.length * sz then _ else _) = _
      rw [if_neg (by omega)]
      show (if g ∈ bs then _ else _) = _
      rw [if_neg hgb]
      exact hS j
theorem getD_setC (l : List V) (i : Nat) : (l.map V.setC).getD i .undef = (l.getD i .undef).setC := by
  simp only [List.getD_eq_getElem?_getD, List.getElem?_map]
  cases l[i]? <;> rfl
theorem OwnC.setC {p : Pl} {v : V} {x : Value} (himm : ∀ g j c, G.S g j = some c → w.cell? ⟨g, j, none⟩ = some c) (h : OwnC G w p v x) :
    ∃ G', Le G G' ∧ G'.β = G.β ∧ G'.ω = G.ω ∧ (∀ k, G.ω k ≠ some p → ∀ j, G'.S k j = G.S k j) ∧ (∀ g j c, G'.S g j = some c → w.cell? ⟨g, j, none⟩ = some c) ∧ OwnC G' w p v.setC x := by
  by_cases hq : ∃ sz l, v = .uq sz l
  · obtain ⟨sz, l, rfl⟩ := hq
    exact settle_one himm h
  · have : v.setC = v := by cases v <;> first | rfl | exact absurd ⟨_, _, rfl⟩ hq
    rw [this]
    exact ⟨G, Le.refl _, rfl, rfl, fun _ _ _ => rfl, himm, h⟩
theorem settle_cells (himm : ∀ g j c, G.S g j = some c → w.cell? ⟨g, j, none⟩ = some c) {l : List V} {X : Nat → Value} (h : ∀ j, j < l.length → OwnC G w (.rs 0 j) (l.getD j .undef) (X j)) :
    ∀ n, n ≤ l.length → ∃ G', Le G G' ∧ G'.β = G.β ∧ G'.ω = G.ω ∧ (∀ k, (∀ j, G.ω k ≠ some (.rs 0 j)) → ∀ j, G'.S k j = G.S k j) ∧ (∀ g j c, G'.S g j = some c → w.cell? ⟨g, j, none⟩ = some c) ∧
      ∀ j, j < l.length → OwnC G' w (.rs 0 j) (if j < n then (l.getD j .undef).setC else l.getD j .undef) (X j) := by
  intro n
  induction n with
  | zero => intro _; exact ⟨G, Le.refl _, rfl, rfl, fun _ _ _ => rfl, himm, fun j hj => by rw [if_neg (by omega)]; exact h j hj⟩
  | succ n ih =>
    intro hn
    obtain ⟨G1, a1, a2, a3, a4, a5, a6⟩ := ih (by omega)
    have hc := a6 n (by omega)
    rw [if_neg (by omega)] at hc
    obtain ⟨G2, b1, b2, b3, b4, b5, b6⟩ := hc.setC a5
    refine ⟨G2, ⟨fun g j c e => b1.S _ _ _ (a1.S _ _ _ e), fun l t g e => b1.β _ _ _ (a1.β _ _ _ e)⟩, b2.trans a2, b3.trans a3, fun k hk j => ?_, b5, fun j hj => ?_⟩
    · rw [b4 k (by rw [a3]; exact hk n) j, a4 k hk j]
    · by_cases hj2 : j = n
      · subst hj2; rw [if_pos (by omega)]; exact b6
      · have e1 : (if j < n + 1 then (l.getD j .undef).setC else l.getD j .undef) = (if j < n then (l.getD j .undef).setC else l.getD j .undef) := by
          by_cases h1 : j < n
          · rw [if_pos h1, if_pos (by omega)]
          · rw [if_neg h1, if_neg (by omega)]
        rw [e1]
        refine (a6 j hj).mono b1 fun k hk => ⟨rfl, fun i => b4 k ?_ i, by rw [b3]; exact hk⟩
        intro e
        rw [hk] at e
        exact hj2 (by injection (Option.some.inj e))
theorem Rel.settle (h : Rel G s a w) {v : V} {x : Value} (hv : OwnS G w Pl.rs v x) : ∃ G', Rel G' s a w ∧ OwnS G' w Pl.rs v.settle x ∧ Fr s.lv G w G' w := by
  have mk : ∀ G', Le G G' → G'.β = G.β → G'.ω = G.ω → (∀ k, (∀ j, G.ω k ≠ some (.rs 0 j)) → ∀ j, G'.S k j = G.S k j) → (∀ g j c, G'.S g j = some c → w.cell? ⟨g, j, none⟩ = some c) → Rel G' s a w ∧ Fr s.lv G w G' w := by
    intro G' h1 h2 h3 h4 h5
    refine ⟨h.grow h1 h2 (fun g p hp hg => ⟨rfl, fun j => h4 g (fun i e => ?_) j, by rw [h3]; exact hg⟩) h5 (fun g p hg => h.lim g p (by rw [h3] at hg; exact hg)), rfl, rfl, rfl, Nat.le_refl _, fun g hg hm => ⟨rfl, by rw [h3], fun j => h4 g (fun i e => hm _ e trivial) j⟩, h1.S, fun _ _ _ => by rw [h2]⟩
    rw [hg] at e
    exact hp _ _ (Option.some.inj e)
  by_cases ha : ∃ l, v = .agg l
  · obtain ⟨l, rfl⟩ := ha
    obtain ⟨cs, rfl, hl, hc⟩ := (hv : ∃ cs, x = .agg cs ∧ l.length = cs.size ∧ ∀ j, j < l.length → OwnC G w (.rs 0 j) (l.getD j .undef) (cs.getD j undef))
    obtain ⟨G', b1, b2, b3, b4, b5, b6⟩ := settle_cells (X := fun j => cs.getD j undef) h.imm hc l.length (Nat.le_refl _)
    obtain ⟨m1, m2⟩ := mk G' b1 b2 b3 b4 b5
    refine ⟨G', m1, ⟨cs, rfl, by simpa using hl, fun j hj => ?_⟩, m2⟩
    have hj' : j < l.length := by simpa using hj
    have := b6 j hj'
    rw [if_pos hj'] at this
    rw [getD_setC]
    exact this
  by_cases hq : ∃ sz l, v = .uq sz l
  · obtain ⟨sz, l, rfl⟩ := hq
    obtain ⟨G', b1, b2, b3, b4, b5, b6⟩ := settle_one h.imm (hv : OwnU G w (.rs 0 0) sz l x)
    obtain ⟨m1, m2⟩ := mk G' b1 b2 b3 (fun k hk j => b4 k (hk 0) j) b5
    exact ⟨G', m1, b6, m2⟩
  · have : v.settle = v := by cases v <;> first | rfl | exact absurd ⟨_, rfl⟩ ha | exact absurd ⟨_, _, rfl⟩ hq
    rw [this]
    exact ⟨G, h, hv, Fr.refl _ _ _⟩
theorem Rel.setl (h : Rel G s a w) (b : Bool) {v : V} {x : Value} (hv : OwnS G w Pl.rs v x) : ∃ G', Rel G' s a w ∧ OwnS G' w Pl.rs (setl b v) x ∧ Fr s.lv G w G' w := by
  cases b
  · exact ⟨G, h, hv, Fr.refl _ _ _⟩
  · exact h.settle hv

/-! ### made objects -/
structure Grew (s s1 : St) : Prop where
  lv : s1.lv = s.lv
  t : s1.t = s.t
  n : s1.n = s.n
  o : s1.o = s.o
  f : s1.f = s.f
  r : s1.r = s.r
  ob : ∀ l u ob, s.ob l u = some ob → s1.ob l u = some ob
theorem Grew.refl (s : St) : Grew s s := ⟨rfl, rfl, rfl, rfl, rfl, rfl, fun _ _ _ h => h⟩
theorem Grew.trans {s s1 s2 : St} (h : Grew s s1) (k : Grew s1 s2) : Grew s s2 := ⟨k.lv.trans h.lv, k.t.trans h.t, k.n.trans h.n, k.o.trans h.o, k.f.trans h.f, k.r.trans h.r, fun l u ob e => k.ob _ _ _ (h.ob _ _ _ e)⟩
theorem Rel.uMk (h : Rel G s a w) {c j : Nat} {sz : Nat} {l : List V} {X : Value} {dd : Nat} (hX : OwnU G w (.rs c j) sz l X) (hne : l ≠ []) (hpu : (l.map V.flat).flatten.all pureC = true) (hd : s.b dd = none) :
    ∃ G', Rel G' { s with b := upd s.b dd (some (.arr false sz l)) } a w ∧ Tr G'.S G'.β (.aref s.lv dd l.length) X ∧ Fr s.lv G w G' w ∧ Le G G' ∧ (∀ k q, q ≠ .rs c j → G.ω k = some q → G'.ω k = some q) ∧ G'.S = G.S := by
  obtain ⟨a0, cap, rfl, ⟨hn, _⟩ | ⟨g, cs, cty, bs, rfl, hn, hω', hg, hcs, hlc, hs0, hS, hk⟩⟩ := hX.inv
  · exact absurd hn hne
  have hω := hω' g (List.mem_cons_self ..)
  obtain ⟨rfl, hTk⟩ := hk.pure (fun v hv => List.all_eq_true.1 hpu v hv)
  have hs : ∀ x ∈ l, x.flat.length = sz ∧ x.flat.all pureC = true := fun x hx => ⟨hs0 x hx, List.all_eq_true.2 fun v hv => List.all_eq_true.1 hpu v (List.mem_flatten.2 ⟨_, List.mem_map_of_mem hx, hv⟩)⟩
  have hT : ∀ p q, p < l.length → q < sz → Tr G.S G.β ((l.getD p .undef).flat.getD q .undef) (cs.getD (p * sz + q) undef) := fun p q hp hq => by
    have hlt := cell_lt hp hq
    have := hTk (p * sz + q) (by rw [flat_len hs0]; exact hlt)
    rw [flat_getD hs0 p q hp hq] at this
    have e : (cs.toList.take (l.length * sz)).getD (p * sz + q) undef = cs.getD (p * sz + q) undef := by
      simp only [List.getD_eq_getElem?_getD, List.getElem?_take, if_pos hlt, Array.getD_eq_getD_getElem?]
      simp
    rw [e] at this
    exact this
  have hβ := β_none h (lv := s.lv) (t := dd) (by rw [ob_b]; exact hd)
  have hle : Le G (G.obj s.lv dd g) := ⟨fun _ _ _ hc => hc, fun l u g' hg' => by
    show (if l = s.lv ∧ u = dd then _ else _) = _
    rw [if_neg (by rintro ⟨rfl, rfl⟩; rw [hβ] at hg'; cases hg')]; exact hg'⟩
  have hso : ∀ k q, q ≠ .rs c j → G.ω k = some q → (G.obj s.lv dd g).ω k = some q := by
    intro k q hq hk
    show (if k = g then _ else _) = _
    rw [if_neg (by rintro rfl; rw [hω] at hk; exact hq (Option.some.inj hk).symm)]; exact hk
  refine ⟨G.obj s.lv dd g, ⟨h.size, h.defers, fun t => (h.slot t).mono hle fun c' j' k hk => ⟨rfl, fun _ => rfl, hso k _ (fun e => by cases e) hk⟩, fun lv t ob' hob => ?_, fun lv t g' hg' => ?_, h.imm, fun g' q hq => ?_⟩, ?_, ⟨rfl, rfl, rfl, Nat.le_refl _, fun k hk hm => ⟨rfl, ?_, fun _ => rfl⟩, fun _ _ _ e => e, fun l' t' hl' => ?_⟩, hle, hso, rfl⟩
  · rw [ob_upd] at hob
    split at hob
    · rename_i he
      obtain ⟨rfl, rfl⟩ := he
      obtain rfl := Option.some.inj hob
      refine ⟨g, ?_, ?_, cs, cty, hg, by rw [hcs]; exact Nat.mul_le_mul_right _ hlc, hs, fun i j hi hj => hle.tr (hT i j hi hj), hS⟩
      · show (if _ ∧ _ then _ else _) = _; rw [if_pos ⟨rfl, rfl⟩]
      · show (if _ = _ then _ else _) = _; rw [if_pos rfl]
    · obtain ⟨g', h1, h2, h3⟩ := h.obj lv t ob' hob
      exact ⟨g', hle.β _ _ _ h1, hso _ _ (fun e => by cases e) h2, h3.mono hle ⟨rfl, fun _ => rfl⟩ fun i k hk => ⟨rfl, fun _ => rfl, hso _ _ (fun e => by cases e) hk⟩⟩
  · rw [ob_upd]
    split
    · exact ⟨_, rfl⟩
    · rename_i hne'
      have hg2 : (if lv = s.lv ∧ t = dd then some g else G.β lv t) = some g' := hg'
      rw [if_neg hne'] at hg2
      exact h.dom _ _ _ hg2
  · have hq' : (if g' = g then some (Pl.ob s.lv dd) else G.ω g') = some q := hq
    split at hq'
    · rename_i e; subst e; exact h.lim _ _ hω
    · exact h.lim _ _ hq'
  · refine Tr.aref _ _ _ g cap ?_ hlc
    show (if _ ∧ _ then _ else _) = _; rw [if_pos ⟨rfl, rfl⟩]
  · show (if k = g then _ else _) = _
    rw [if_neg (by rintro rfl; exact hm _ hω trivial)]
  · show (if l' = s.lv ∧ t' = dd then _ else _) = _
    rw [if_neg (by omega)]
/-- a variable that was handed back becomes an object of the frame -/
theorem Rel.nMk (h : Rel G s a w) {c j : Nat} {l : List V} {X : Value} {dd : Nat} (hX : OwnN G w (.rs c j) l X) (hd : s.b dd = none) :
    ∃ G', Rel G' { s with b := upd s.b dd (some (.box l)) } a w ∧ Tr G'.S G'.β (.ptr s.lv dd 0) X ∧ Fr s.lv G w G' w ∧ Le G G' ∧ (∀ k q, q ≠ .rs c j → G.ω k = some q → G'.ω k = some q) ∧ G'.S = G.S := by
  obtain ⟨g, cs, cty, rfl, hω, hg, hlc, hS, hp, hT⟩ := hX
  have hβ := β_none h (lv := s.lv) (t := dd) (by rw [ob_b]; exact hd)
  have hle : Le G (G.obj s.lv dd g) := ⟨fun _ _ _ hc => hc, fun l u g' hg' => by
    show (if l = s.lv ∧ u = dd then _ else _) = _
    rw [if_neg (by rintro ⟨rfl, rfl⟩; rw [hβ] at hg'; cases hg')]; exact hg'⟩
  have hso : ∀ k q, q ≠ .rs c j → G.ω k = some q → (G.obj s.lv dd g).ω k = some q := by
    intro k q hq hk
    show (if k = g then _ else _) = _
    rw [if_neg (by rintro rfl; rw [hω] at hk; exact hq (Option.some.inj hk).symm)]; exact hk
  refine ⟨G.obj s.lv dd g, ⟨h.size, h.defers, fun t => (h.slot t).mono hle fun c' j' k hk => ⟨rfl, fun _ => rfl, hso k _ (fun e => by cases e) hk⟩, fun lv t ob' hob => ?_, fun lv t g' hg' => ?_, h.imm, fun g' q hq => ?_⟩, ?_, ⟨rfl, rfl, rfl, Nat.le_refl _, fun k hk hm => ⟨rfl, ?_, fun _ => rfl⟩, fun _ _ _ e => e, fun l' t' hl' => ?_⟩, hle, hso, rfl⟩
  · rw [ob_upd] at hob
    split at hob
    · rename_i he
      obtain ⟨rfl, rfl⟩ := he
      obtain rfl := Option.some.inj hob
      refine ⟨g, ?_, ?_, cs, cty, hg, hlc, hS, fun i hi => OwnC.of_view (hle.tr (hT i hi)) fun sz m e => ?_⟩
      · show (if _ ∧ _ then _ else _) = _; rw [if_pos ⟨rfl, rfl⟩]
      · show (if _ = _ then _ else _) = _; rw [if_pos rfl]
      · have hm : l.getD i .undef ∈ l := by
          rw [List.getD_eq_getElem?_getD, List.getElem?_eq_getElem hi]
          exact List.getElem_mem hi
        have := hp _ hm
        rw [e] at this
        cases this
    · obtain ⟨g', h1, h2, h3⟩ := h.obj lv t ob' hob
      exact ⟨g', hle.β _ _ _ h1, hso _ _ (fun e => by cases e) h2, h3.mono hle ⟨rfl, fun _ => rfl⟩ fun i k hk => ⟨rfl, fun _ => rfl, hso _ _ (fun e => by cases e) hk⟩⟩
  · rw [ob_upd]
    split
    · exact ⟨_, rfl⟩
    · rename_i hne'
      have hg2 : (if lv = s.lv ∧ t = dd then some g else G.β lv t) = some g' := hg'
      rw [if_neg hne'] at hg2
      exact h.dom _ _ _ hg2
  · have hq' : (if g' = g then some (Pl.ob s.lv dd) else G.ω g') = some q := hq
    split at hq'
    · rename_i e; subst e; exact h.lim _ _ hω
    · exact h.lim _ _ hq'
  · refine Tr.ptr _ _ _ g ?_
    show (if _ ∧ _ then _ else _) = _; rw [if_pos ⟨rfl, rfl⟩]
  · show (if k = g then _ else _) = _
    rw [if_neg (by rintro rfl; exact hm _ hω trivial)]
  · show (if l' = s.lv ∧ t' = dd then _ else _) = _
    rw [if_neg (by omega)]
theorem Grew.new {dd : Nat} {ob : Ob} (hd : s.b dd = none) : Grew s { s with b := upd s.b dd (some ob) } := by
  refine ⟨rfl, rfl, rfl, rfl, rfl, rfl, fun l u ob' he => ?_⟩
  rw [ob_upd, if_neg (by rintro ⟨rfl, rfl⟩; rw [ob_b, hd] at he; cases he)]
  exact he
/-- a block, and what lies in it already told by reference, becomes an object -/
theorem Rel.uDir (h : Rel G s a w) {c j : Nat} {sz : Nat} {l : List V} {g cap : Nat} {cs : Array Value} {cty : TypeId} {dd : Nat} (hω : G.ω g = some (.rs c j)) (hg : w.heap[g]? = some (.cells cs cty (0, 0))) (hcs : cs.size = cap * sz) (hlc : l.length ≤ cap) (hS : ∀ j, G.S g j = none)
    (hs : ∀ x ∈ l, x.flat.length = sz ∧ x.flat.all cellD = true) (hT : ∀ p q, p < l.length → q < sz → Tr G.S G.β ((l.getD p .undef).flat.getD q .undef) (cs.getD (p * sz + q) undef)) (hd : s.b dd = none) :
    ∃ G', Rel G' { s with b := upd s.b dd (some (.dir sz l)) } a w ∧ Tr G'.S G'.β (.aref s.lv dd l.length) (.slice (some ⟨g, 0, none⟩) l.length cap) ∧ Fr s.lv G w G' w ∧ Le G G' ∧ (∀ k q, k ≠ g → G.ω k = some q → G'.ω k = some q) ∧ G'.S = G.S := by
  have hβ := β_none h (lv := s.lv) (t := dd) (by rw [ob_b]; exact hd)
  have hle : Le G (G.obj s.lv dd g) := ⟨fun _ _ _ hc => hc, fun l u g' hg' => by
    show (if l = s.lv ∧ u = dd then _ else _) = _
    rw [if_neg (by rintro ⟨rfl, rfl⟩; rw [hβ] at hg'; cases hg')]; exact hg'⟩
  have hso : ∀ k q, k ≠ g → G.ω k = some q → (G.obj s.lv dd g).ω k = some q := by
    intro k q hq hk
    show (if k = g then _ else _) = _
    rw [if_neg hq]; exact hk
  have hsn : ∀ k q, (∀ c j, q ≠ .rs c j) → G.ω k = some q → (G.obj s.lv dd g).ω k = some q := fun k q hq hk => hso k q (by rintro rfl; rw [hω] at hk; exact hq _ _ (Option.some.inj hk).symm) hk
  refine ⟨G.obj s.lv dd g, ⟨h.size, h.defers, fun t => (h.slot t).mono hle fun c' j' k hk => ⟨rfl, fun _ => rfl, hsn k _ (fun _ _ e => by cases e) hk⟩, fun lv t ob' hob => ?_, fun lv t g' hg' => ?_, h.imm, fun g' q hq => ?_⟩, ?_, ⟨rfl, rfl, rfl, Nat.le_refl _, fun k hk hm => ⟨rfl, ?_, fun _ => rfl⟩, fun _ _ _ e => e, fun l' t' hl => ?_⟩, hle, hso, rfl⟩
  · rw [ob_upd] at hob
    split at hob
    · rename_i he
      obtain ⟨rfl, rfl⟩ := he
      obtain rfl := Option.some.inj hob
      refine ⟨g, ?_, ?_, cs, cty, hg, by rw [hcs]; exact Nat.mul_le_mul_right _ hlc, hs, fun i j hi hj => hle.tr (hT i j hi hj), hS⟩
      · show (if _ ∧ _ then _ else _) = _; rw [if_pos ⟨rfl, rfl⟩]
      · show (if _ = _ then _ else _) = _; rw [if_pos rfl]
    · obtain ⟨g', h1, h2, h3⟩ := h.obj lv t ob' hob
      exact ⟨g', hle.β _ _ _ h1, hsn _ _ (fun _ _ e => by cases e) h2, h3.mono hle ⟨rfl, fun _ => rfl⟩ fun i k hk => ⟨rfl, fun _ => rfl, hsn _ _ (fun _ _ e => by cases e) hk⟩⟩
  · rw [ob_upd]
    split
    · exact ⟨_, rfl⟩
    · rename_i hne'
      have hg2 : (if lv = s.lv ∧ t = dd then some g else G.β lv t) = some g' := hg'
      rw [if_neg hne'] at hg2
      exact h.dom _ _ _ hg2
  · have hq' : (if g' = g then some (Pl.ob s.lv dd) else G.ω g') = some q := hq
    split at hq'
    · rename_i e; subst e; exact h.lim _ _ hω
    · exact h.lim _ _ hq'
  · refine Tr.aref _ _ _ g cap ?_ hlc
    show (if _ ∧ _ then _ else _) = _; rw [if_pos ⟨rfl, rfl⟩]
  · show (if k = g then _ else _) = _
    rw [if_neg (by rintro rfl; exact hm _ hω trivial)]
  · show (if l' = s.lv ∧ t' = dd then _ else _) = _
    rw [if_neg (by omega)]
structure Mk (G : Gh) (s : St) (a : Act) (w : World) (bs : List Nat) (G' : Gh) (s1 : St) : Prop where
  rel : Rel G' s1 a w
  fr : Fr s.lv G w G' w
  le : Le G G'
  ω : ∀ k q, k ∉ bs → G.ω k = some q → G'.ω k = some q
  S : G'.S = G.S
  grew : Grew s s1
theorem Mk.refl (h : Rel G s a w) : Mk G s a w [] G s := ⟨h, Fr.refl _ _ _, Le.refl _, fun _ _ _ e => e, rfl, Grew.refl _⟩
theorem Mk.trans {bs bs' : List Nat} {G1 G2 : Gh} {s1 s2 : St} (h : Mk G s a w bs G1 s1) (k : Mk G1 s1 a w bs' G2 s2) : Mk G s a w (bs ++ bs') G2 s2 :=
  ⟨k.rel, h.fr.trans (by have := k.fr; rw [h.grew.lv] at this; exact this), ⟨fun g j c e => k.le.S _ _ _ (h.le.S _ _ _ e), fun l t g e => k.le.β _ _ _ (h.le.β _ _ _ e)⟩,
    fun b q hb e => k.ω b q (fun e' => hb (List.mem_append_right _ e')) (h.ω b q (fun e' => hb (List.mem_append_left _ e')) e), k.S.trans h.S, h.grew.trans k.grew⟩
theorem Mk.dts {bs bs' : List Nat} {G1 : Gh} {s1 : St} (h : Mk G s a w bs G1 s1) {l : List V} {xs : List Value} (k : DTs G.S G.β w bs' l xs) : DTs G1.S G1.β w bs' l xs := k.mono (fun _ _ _ e => h.le.tr e) fun b hb => ⟨rfl, fun j => by rw [h.S]⟩
theorem cellD_flat {v : V} (h : cellD v = true) : v.flat = [v] := by
  cases v <;> first | rfl | (cases h; done)
/-- what f makes of a cell -/
def MkOk (a : Act) (w : World) (f : St → Nat → V → Option (V × St)) : Prop := ∀ {G : Gh} {s s1 : St} {id : Nat} {v v' : V} {x : Value} {bs : List Nat} {c j : Nat}, Rel G s a w → bs.Nodup → (∀ b ∈ bs, G.ω b = some (.rs c j)) → DTs G.S G.β w bs [v] [x] → f s id v = some (v', s1) →
  ∃ G', Mk G s a w bs G' s1 ∧ Tr G'.S G'.β v' x ∧ cellD v' = true
theorem mkCells_ok {f : St → Nat → V → Option (V × St)} (hf : MkOk a w f) {M id : Nat} : ∀ {l : List V} {G : Gh} {s s1 : St} {k : Nat} {l' : List V} {xs : List Value} {bs : List Nat} {c j : Nat}, Rel G s a w → bs.Nodup → (∀ b ∈ bs, G.ω b = some (.rs c j)) → DTs G.S G.β w bs l xs → mkCells f M id s k l = some (l', s1) →
    ∃ G', Mk G s a w bs G' s1 ∧ l'.length = l.length ∧ (∀ i, i < l.length → Tr G'.S G'.β (l'.getD i .undef) (xs.getD i undef)) ∧ l'.all cellD = true := by
  intro l
  induction l with
  | nil =>
    intro G s s1 k l' xs bs c j h hn hω hd hv
    obtain ⟨rfl, rfl⟩ := Prod.mk.inj (Option.some.inj hv)
    cases hd
    exact ⟨G, .refl h, rfl, fun i hi => absurd hi (Nat.not_lt_zero _), rfl⟩
  | cons v l ih =>
    intro G s s1 k l' xs bs c j h hn hω hd hv
    unfold mkCells at hv
    split at hv
    · rename_i v' s2 h1
      split at hv
      · rename_i l2 s3 h2
        obtain ⟨rfl, rfl⟩ := Prod.mk.inj (Option.some.inj hv)
        obtain ⟨b1, b2, rfl, k1, k2⟩ := DTs.split (l1 := [v]) hd
        rw [List.nodup_append] at hn
        obtain ⟨n1, n2, n3⟩ := hn
        have hxs : xs = xs.getD 0 undef :: xs.drop 1 := by
          have := hd.len
          cases xs with
          | nil => simp at this
          | cons x xs => rfl
        have e1 : xs.take [v].length = [xs.getD 0 undef] := by rw [hxs]; rfl
        rw [e1] at k1
        obtain ⟨G1, m1, t1, d1⟩ := hf h n1 (fun b hb => hω b (List.mem_append_left _ hb)) k1 h1
        obtain ⟨G2, m2, t2, t3, d2⟩ := ih m1.rel n2 (fun b hb => m1.ω b _ (fun e => n3 b e b hb rfl) (hω b (List.mem_append_right _ hb))) (m1.dts k2) h2
        refine ⟨G2, m1.trans m2, by simp [t2], fun i hi => ?_, by rw [List.all_cons, d1, d2]; rfl⟩
        cases i with
        | zero => exact m2.le.tr t1
        | succ i =>
          have := t3 i (by simpa using hi)
          rw [hxs]
          exact this
      · cases hv
    · cases hv
theorem mkEls_ok {f : St → Nat → V → Option (V × St)} (hf : MkOk a w f) {M id sz : Nat} : ∀ {l : List V} {G : Gh} {s s1 : St} {i : Nat} {l' : List V} {xs : List Value} {bs : List Nat} {c j : Nat}, Rel G s a w → bs.Nodup → (∀ b ∈ bs, G.ω b = some (.rs c j)) → DTs G.S G.β w bs (l.map V.flat).flatten xs → mkEls f M id sz s i l = some (l', s1) →
    ∃ G', Mk G s a w bs G' s1 ∧ l'.map (fun x => x.flat.length) = l.map (fun x => x.flat.length) ∧ (∀ i, i < (l.map V.flat).flatten.length → Tr G'.S G'.β ((l'.map V.flat).flatten.getD i .undef) (xs.getD i undef)) ∧ (l'.map V.flat).flatten.all cellD = true := by
  intro l
  induction l with
  | nil =>
    intro G s s1 i l' xs bs c j h hn hω hd hv
    obtain ⟨rfl, rfl⟩ := Prod.mk.inj (Option.some.inj hv)
    cases hd
    exact ⟨G, .refl h, rfl, fun i hi => absurd hi (Nat.not_lt_zero _), rfl⟩
  | cons v l ih =>
    intro G s s1 i l' xs bs c j h hn hω hd hv
    unfold mkEls at hv
    split at hv
    · rename_i cs s2 h1
      split at hv
      · rename_i l2 s3 h2
        obtain ⟨rfl, rfl⟩ := Prod.mk.inj (Option.some.inj hv)
        rw [List.map_cons, List.flatten_cons] at hd
        obtain ⟨b1, b2, rfl, k1, k2⟩ := hd.split
        rw [List.nodup_append] at hn
        obtain ⟨n1, n2, n3⟩ := hn
        obtain ⟨G1, m1, t1, t0, d1⟩ := mkCells_ok hf h n1 (fun b hb => hω b (List.mem_append_left _ hb)) k1 h1
        obtain ⟨G2, m2, t2, t3, d2⟩ := ih m1.rel n2 (fun b hb => m1.ω b _ (fun e => n3 b e b hb rfl) (hω b (List.mem_append_right _ hb))) (m1.dts k2) h2
        have hfl : (v.refill cs).flat = cs := by
          cases v
          case agg m => rfl
          all_goals
            have hl1 : cs.length = 1 := t1
            match cs, hl1, d1 with
            | [c], _, d1 =>
              show c.flat = [c]
              exact cellD_flat (by simpa using d1)
        refine ⟨G2, m1.trans m2, by simp only [List.map_cons, hfl, t1, t2], fun i hi => ?_, by rw [List.map_cons, List.flatten_cons, List.all_append, hfl, d1, d2]; rfl⟩
        rw [List.map_cons, List.flatten_cons, List.length_append] at hi
        rw [List.map_cons, List.flatten_cons, hfl]
        by_cases hlt : i < v.flat.length
        · have e : (cs ++ (l2.map V.flat).flatten).getD i .undef = cs.getD i .undef := by
            simp only [List.getD_eq_getElem?_getD]
            rw [List.getElem?_append_left (by omega)]
          have e2 : (xs.take v.flat.length).getD i undef = xs.getD i undef := by
            simp only [List.getD_eq_getElem?_getD, List.getElem?_take, if_pos hlt]
          rw [e, ← e2]
          exact m2.le.tr (t0 i hlt)
        · have e : (cs ++ (l2.map V.flat).flatten).getD i .undef = (l2.map V.flat).flatten.getD (i - v.flat.length) .undef := by
            simp only [List.getD_eq_getElem?_getD]
            rw [List.getElem?_append_right (by omega), t1]
          have e2 : (xs.drop v.flat.length).getD (i - v.flat.length) undef = xs.getD i undef := by
            simp only [List.getD_eq_getElem?_getD, List.getElem?_drop]
            rw [show v.flat.length + (i - v.flat.length) = i by omega]
          rw [e, ← e2]
          exact t3 _ (by omega)
      · cases hv
    · cases hv
theorem mkC_ok : ∀ n, MkOk a w (mkC n) := by
  have leaf : ∀ {G : Gh} {s s1 : St} {v v' : V} {x : Value} {bs : List Nat}, Rel G s a w → DTs G.S G.β w bs [v] [x] → (if pureC v then some (v, s) else none) = some (v', s1) → ∃ G', Mk G s a w bs G' s1 ∧ Tr G'.S G'.β v' x ∧ cellD v' = true := by
    intro G s s1 v v' x bs h hd hv
    split at hv
    · rename_i hp
      obtain ⟨rfl, rfl⟩ := Prod.mk.inj (Option.some.inj hv)
      obtain ⟨rfl, hT⟩ := hd.pure (fun u hu => by rw [List.mem_singleton.1 hu]; exact hp)
      exact ⟨G, .refl h, hT 0 (by simp), pureC_cellD hp⟩
    · cases hv
  have nil : ∀ {G : Gh} {s s1 : St} {sz : Nat} {v' : V} {x : Value} {bs : List Nat}, Rel G s a w → DTs G.S G.β w bs [.uq sz []] [x] → some (V.slc false sz [], s) = some (v', s1) → ∃ G', Mk G s a w bs G' s1 ∧ Tr G'.S G'.β v' x ∧ cellD v' = true := by
    intro G s s1 sz v' x bs h hd hv
    obtain ⟨rfl, rfl⟩ := Prod.mk.inj (Option.some.inj hv)
    refine ⟨G, ⟨h, Fr.refl _ _ _, Le.refl _, fun _ _ _ e => e, rfl, Grew.refl _⟩, ?_, rfl⟩
    cases hd with
    | leaf hp => cases hp
    | emp k => exact .slc0 _ _ _
    | blk => exact .slc0 _ _ _
  intro n
  induction n with
  | zero =>
    intro G s s1 id v v' x bs c j h hn hω hd hv
    unfold mkC at hv
    split at hv
    · exfalso; omega
    · exact nil h hd hv
    · exact leaf h hd hv
  | succ n ih =>
    intro G s s1 id v v' x bs c j h hn hω hd hv
    unfold mkC at hv
    split at hv
    · rename_i n' sz y l e
      obtain rfl : n' = n := by injection e with e; exact e.symm
      split at hv
      · rename_i l' s2 h1
        split at hv
        · rename_i hb
          obtain ⟨rfl, rfl⟩ := Prod.mk.inj (Option.some.inj hv)
          cases hd with
          | leaf hp => cases hp
          | blk hg hc hm hs hS hk k =>
            rename_i bs1 bs2 g cs ty cap
            cases k
            rw [List.append_nil] at hn hω
            rw [List.nodup_cons] at hn
            obtain ⟨G1, m1, t1, t2, d1⟩ := mkEls_ok ih h hn.2 (fun b hb => hω b (List.mem_cons_of_mem _ hb)) hk h1
            have hl' : l'.length = (y :: l).length := by have := congrArg List.length t1; simpa using this
            have hs' : ∀ x ∈ l', x.flat.length = sz := fun x hx => by
              have h5 : x.flat.length ∈ l'.map (fun x => x.flat.length) := List.mem_map_of_mem hx
              rw [t1] at h5
              obtain ⟨z, hz, e⟩ := List.mem_map.1 h5
              rw [← e]; exact hs z hz
            have hωg := m1.ω g _ hn.1 (hω g (List.mem_cons_self ..))
            obtain ⟨G2, u1, u2, u3, u4, u5, u6⟩ := m1.rel.uDir (l := l') (cap := cap) hωg hg hc (by omega) (fun j => by rw [m1.S]; exact hS j) (fun x hx => ⟨hs' x hx, List.all_eq_true.2 fun u hu => List.all_eq_true.1 d1 u (List.mem_flatten.2 ⟨_, List.mem_map_of_mem hx, hu⟩)⟩) (fun p q hp hq => by
              rw [hl'] at hp
              have hlt := cell_lt hp hq
              have := t2 (p * sz + q) (by rw [flat_len hs]; exact hlt)
              rw [flat_getD hs' p q (by omega) hq] at this
              have e : (cs.toList.take ((y :: l).length * sz)).getD (p * sz + q) undef = cs.getD (p * sz + q) undef := by
                simp only [List.getD_eq_getElem?_getD, List.getElem?_take, if_pos hlt, Array.getD_eq_getD_getElem?]
                simp
              rw [e] at this
              exact this) hb
            rw [hl'] at u2
            rw [m1.grew.lv] at u3 u2
            refine ⟨G2, ⟨u1, m1.fr.trans u3, ⟨fun g j c e => u4.S _ _ _ (m1.le.S _ _ _ e), fun l t g e => u4.β _ _ _ (m1.le.β _ _ _ e)⟩, fun b q hb e => ?_, u6.trans m1.S, m1.grew.trans (Grew.new hb)⟩, ?_, rfl⟩
            · rw [List.append_nil] at hb
              exact u5 b q (fun e' => hb (by rw [e']; exact List.mem_cons_self ..)) (m1.ω b q (fun e' => hb (List.mem_cons_of_mem _ e')) e)
            · rw [m1.grew.lv, hl']; exact u2
        · cases hv
      · cases hv
    · exact nil h hd hv
    · exact leaf h hd hv
theorem mkC_cellD : ∀ n {s s1 id v v'}, mkC n s id v = some (v', s1) → cellD v' = true := by
  intro n s s1 id v v' hv
  unfold mkC at hv
  split at hv
  · split at hv
    · split at hv
      · obtain ⟨rfl, _⟩ := Prod.mk.inj (Option.some.inj hv); rfl
      · cases hv
    · cases hv
  · obtain ⟨rfl, _⟩ := Prod.mk.inj (Option.some.inj hv); rfl
  · split at hv
    · rename_i hp
      obtain ⟨rfl, _⟩ := Prod.mk.inj (Option.some.inj hv); exact pureC_cellD hp
    · cases hv
theorem mkCells_grew {f : St → Nat → V → Option (V × St)} (hf : ∀ {s s1 id v v'}, f s id v = some (v', s1) → Grew s s1) {M id : Nat} : ∀ {l : List V} {s s1 : St} {k : Nat} {l' : List V}, mkCells f M id s k l = some (l', s1) → Grew s s1 := by
  intro l
  induction l with
  | nil => intro s s1 k l' hv; obtain ⟨rfl, rfl⟩ := Prod.mk.inj (Option.some.inj hv); exact .refl _
  | cons v l ih =>
    intro s s1 k l' hv
    unfold mkCells at hv
    split at hv
    · rename_i h1
      split at hv
      · rename_i h2
        obtain ⟨_, rfl⟩ := Prod.mk.inj (Option.some.inj hv)
        exact (hf h1).trans (ih h2)
      · cases hv
    · cases hv
theorem mkEls_grew {f : St → Nat → V → Option (V × St)} (hf : ∀ {s s1 id v v'}, f s id v = some (v', s1) → Grew s s1) {M id sz : Nat} : ∀ {l : List V} {s s1 : St} {k : Nat} {l' : List V}, mkEls f M id sz s k l = some (l', s1) → Grew s s1 := by
  intro l
  induction l with
  | nil => intro s s1 k l' hv; obtain ⟨rfl, rfl⟩ := Prod.mk.inj (Option.some.inj hv); exact .refl _
  | cons v l ih =>
    intro s s1 k l' hv
    unfold mkEls at hv
    split at hv
    · rename_i h1
      split at hv
      · rename_i h2
        obtain ⟨_, rfl⟩ := Prod.mk.inj (Option.some.inj hv)
        exact (mkCells_grew hf h1).trans (ih h2)
      · cases hv
    · cases hv
theorem mkC_grew : ∀ n {s s1 id v v'}, mkC n s id v = some (v', s1) → Grew s s1 := by
  intro n
  induction n with
  | zero =>
    intro s s1 id v v' hv
    unfold mkC at hv
    split at hv
    · exfalso; omega
    · obtain ⟨_, rfl⟩ := Prod.mk.inj (Option.some.inj hv); exact .refl _
    · split at hv
      · obtain ⟨_, rfl⟩ := Prod.mk.inj (Option.some.inj hv); exact .refl _
      · cases hv
  | succ n ih =>
    intro s s1 id v v' hv
    unfold mkC at hv
    split at hv
    · rename_i n' sz y l e
      obtain rfl : n' = n := by injection e with e; exact e.symm
      split at hv
      · rename_i h1
        split at hv
        · rename_i hb
          obtain ⟨_, rfl⟩ := Prod.mk.inj (Option.some.inj hv)
          exact (mkEls_grew ih h1).trans (.new hb)
        · cases hv
      · cases hv
    · obtain ⟨_, rfl⟩ := Prod.mk.inj (Option.some.inj hv); exact .refl _
    · split at hv
      · obtain ⟨_, rfl⟩ := Prod.mk.inj (Option.some.inj hv); exact .refl _
      · cases hv
theorem uMake_grew {dd : Nat} {v v' : V} {s1 : St} (hv : uMake s dd v = some (v', s1)) : Grew s s1 := by
  unfold uMake at hv
  split at hv
  · obtain ⟨_, rfl⟩ := Prod.mk.inj (Option.some.inj hv); exact .refl _
  · split at hv
    · split at hv
      · rename_i hd
        obtain ⟨_, rfl⟩ := Prod.mk.inj (Option.some.inj hv); exact .new hd
      · cases hv
    · exact mkC_grew _ hv
  · split at hv
    · split at hv
      · rename_i hd
        obtain ⟨_, rfl⟩ := Prod.mk.inj (Option.some.inj hv); exact .new hd
      · cases hv
    · cases hv
  · obtain ⟨_, rfl⟩ := Prod.mk.inj (Option.some.inj hv); exact .refl _
theorem OwnU.nil_slc {p : Pl} {sz : Nat} {x : Value} (h : OwnU G w p sz [] x) : OwnC G w p (.slc true sz []) x := by
  obtain ⟨a, cap, rfl, ⟨_, rfl⟩ | ⟨g, cs, cty, bs, rfl, hn, hω, hg, hcs, hlc, hs, hS, hk⟩⟩ := h.inv
  · exact ⟨Tr.slc0 _ _ _, a, 0, rfl, .inl rfl⟩
  · exact ⟨Tr.slc0 _ _ _, _, cap, rfl, .inr ⟨g, cs, cty, rfl, hω g (List.mem_cons_self ..), hg, hcs, fun j _ => hS j⟩⟩
theorem uMake_ok (h : Rel G s a w) {j dd : Nat} {v v' : V} {x : Value} {s1 : St} (hX : OwnC G w (.rs 0 j) v x) (hv : uMake s dd v = some (v', s1)) :
    ∃ G', Rel G' s1 a w ∧ OwnC G' w (.rs 0 j) v' x ∧ Fr s.lv G w G' w ∧ Le G G' ∧ (∀ k q, q ≠ .rs 0 j → G.ω k = some q → G'.ω k = some q) ∧ G'.S = G.S := by
  unfold uMake at hv
  split at hv
  · obtain ⟨rfl, rfl⟩ := Prod.mk.inj (Option.some.inj hv)
    exact ⟨G, h, OwnU.nil_slc hX, Fr.refl _ _ _, Le.refl _, fun _ _ _ e => e, rfl⟩
  · rename_i sz y l
    split at hv
    · rename_i hfp
      split at hv
      · rename_i hd
        obtain ⟨rfl, rfl⟩ := Prod.mk.inj (Option.some.inj hv)
        obtain ⟨G', h1, h2, h3, h4, h5, h6⟩ := h.uMk (l := y :: l) hX (by simp) hfp hd
        exact ⟨G', h1, OwnC.of_view h2 (fun _ _ e => by cases e), h3, h4, h5, h6⟩
      · cases hv
    · obtain ⟨bs, b1, b2, b3⟩ := (hX : OwnU G w (.rs 0 j) sz (y :: l) x)
      obtain ⟨G', m1, m2, m3⟩ := mkC_ok 8 h b1 b2 b3 hv
      refine ⟨G', m1.rel, OwnC.of_view m2 (fun _ _ e => ?_), m1.fr, m1.le, fun k q hq e => m1.ω k q (fun hb => ?_) e, m1.S⟩
      · subst e; cases m3
      · rw [b2 k hb] at e; exact hq (Option.some.inj e).symm
  · rename_i l
    split at hv
    · split at hv
      · rename_i hd
        obtain ⟨rfl, rfl⟩ := Prod.mk.inj (Option.some.inj hv)
        obtain ⟨G', h1, h2, h3, h4, h5, h6⟩ := h.nMk (l := l) hX hd
        exact ⟨G', h1, OwnC.of_view h2 (fun _ _ e => by cases e), h3, h4, h5, h6⟩
      · cases hv
    · cases hv
  · obtain ⟨rfl, rfl⟩ := Prod.mk.inj (Option.some.inj hv)
    exact ⟨G, h, hX, Fr.refl _ _ _, Le.refl _, fun _ _ _ e => e, rfl⟩
theorem uMakes_grew : ∀ {l : List V} {s : St} {dd : Nat} {l' : List V} {s1 : St}, uMakes s dd l = some (l', s1) → Grew s s1 := by
  intro l
  induction l with
  | nil => intro s dd l' s1 hv; obtain ⟨_, rfl⟩ := Prod.mk.inj (Option.some.inj hv); exact .refl _
  | cons c l ih =>
    intro s dd l' s1 hv
    unfold uMakes at hv
    split at hv
    · rename_i l2 s2 h1
      obtain ⟨⟨v, s3⟩, hr, he⟩ := Option.map_eq_some_iff.1 hv
      obtain ⟨_, rfl⟩ := Prod.mk.inj he
      exact (ih h1).trans (uMake_grew hr)
    · cases hv
theorem uMakes_ok {X : Nat → Value} : ∀ {l : List V} {G : Gh} {s : St} {k dd : Nat} {l' : List V} {s1 : St}, Rel G s a w → (∀ j, j < l.length → OwnC G w (.rs 0 (k + j)) (l.getD j .undef) (X (k + j))) → uMakes s dd l = some (l', s1) →
    ∃ G', Rel G' s1 a w ∧ l'.length = l.length ∧ (∀ j, j < l.length → OwnC G' w (.rs 0 (k + j)) (l'.getD j .undef) (X (k + j))) ∧ Fr s.lv G w G' w ∧ Le G G' ∧ (∀ g q, (∀ j, k ≤ j → q ≠ .rs 0 j) → G.ω g = some q → G'.ω g = some q) ∧ G'.S = G.S := by
  intro l
  induction l with
  | nil =>
    intro G s k dd l' s1 h hX hv
    obtain ⟨rfl, rfl⟩ := Prod.mk.inj (Option.some.inj hv)
    exact ⟨G, h, rfl, fun j hj => absurd hj (Nat.not_lt_zero _), Fr.refl _ _ _, Le.refl _, fun _ _ _ e => e, rfl⟩
  | cons c l ih =>
    intro G s k dd l' s1 h hX hv
    unfold uMakes at hv
    split at hv
    · rename_i l2 s2 h1
      obtain ⟨⟨v, s3⟩, hr, he⟩ := Option.map_eq_some_iff.1 hv
      obtain ⟨rfl, rfl⟩ := Prod.mk.inj he
      obtain ⟨G1, a1, a2, a3, a4, a5, a6, a7⟩ := ih (k := k + 1) h (fun j hj => by
        have := hX (j + 1) (by simpa using hj)
        rw [show k + 1 + j = k + (j + 1) by omega]
        exact this) h1
      have hc : OwnC G1 w (.rs 0 k) c (X k) := (hX 0 (by simp)).mono a5 fun g hg => ⟨rfl, fun i => by rw [a7], a6 g _ (fun j hj e => by injection e; omega) hg⟩
      obtain ⟨G2, b1, b2, b3, b4, b5, b6⟩ := uMake_ok a1 hc hr
      have hlv : s2.lv = s.lv := (uMakes_grew h1).lv
      refine ⟨G2, b1, by simp [a2], fun j hj => ?_, a4.trans (by rw [hlv] at b3; exact b3), ⟨fun g j c e => b4.S _ _ _ (a5.S _ _ _ e), fun l t g e => b4.β _ _ _ (a5.β _ _ _ e)⟩, fun g q hq e => b5 g q (hq k (Nat.le_refl _)) (a6 g q (fun j hj => hq j (by omega)) e), b6.trans a7⟩
      cases j with
      | zero => exact b2
      | succ j =>
        have := a3 j (by simpa using hj)
        rw [show k + 1 + j = k + (j + 1) by omega] at this
        exact this.mono b4 fun g hg => ⟨rfl, fun i => by rw [b6], b5 g _ (fun e => by injection e; omega) hg⟩
    · cases hv
theorem uMakeF_cases {dd : Nat} {v v' : V} {s1 : St} (hv : uMakeF s dd v = some (v', s1)) : uMake s dd v = some (v', s1) ∨ (v' = v ∧ s1 = s) := by
  unfold uMakeF at hv
  split at hv
  · split at hv
    · exact .inl hv
    · obtain ⟨rfl, rfl⟩ := Prod.mk.inj (Option.some.inj hv)
      exact .inr ⟨rfl, rfl⟩
  · exact .inl hv
theorem uMakeF_grew {dd : Nat} {v v' : V} {s1 : St} (hv : uMakeF s dd v = some (v', s1)) : Grew s s1 := by
  rcases uMakeF_cases hv with h | ⟨_, rfl⟩
  · exact uMake_grew h
  · exact .refl _
theorem uMakeF_ok (h : Rel G s a w) {j dd : Nat} {v v' : V} {x : Value} {s1 : St} (hX : OwnC G w (.rs 0 j) v x) (hv : uMakeF s dd v = some (v', s1)) :
    ∃ G', Rel G' s1 a w ∧ OwnC G' w (.rs 0 j) v' x ∧ Fr s.lv G w G' w ∧ Le G G' ∧ (∀ k q, q ≠ .rs 0 j → G.ω k = some q → G'.ω k = some q) ∧ G'.S = G.S := by
  rcases uMakeF_cases hv with hu | ⟨rfl, rfl⟩
  · exact uMake_ok h hX hu
  · exact ⟨G, h, hX, Fr.refl _ _ _, Le.refl _, fun _ _ _ e => e, rfl⟩
theorem uMakesF_grew : ∀ {l : List V} {s : St} {dd : Nat} {l' : List V} {s1 : St}, uMakesF s dd l = some (l', s1) → Grew s s1 := by
  intro l
  induction l with
  | nil => intro s dd l' s1 hv; obtain ⟨_, rfl⟩ := Prod.mk.inj (Option.some.inj hv); exact .refl _
  | cons c l ih =>
    intro s dd l' s1 hv
    unfold uMakesF at hv
    split at hv
    · rename_i l2 s2 h1
      obtain ⟨⟨v, s3⟩, hr, he⟩ := Option.map_eq_some_iff.1 hv
      obtain ⟨_, rfl⟩ := Prod.mk.inj he
      exact (ih h1).trans (uMakeF_grew hr)
    · cases hv
theorem uMakesF_ok {X : Nat → Value} : ∀ {l : List V} {G : Gh} {s : St} {k dd : Nat} {l' : List V} {s1 : St}, Rel G s a w → (∀ j, j < l.length → OwnC G w (.rs 0 (k + j)) (l.getD j .undef) (X (k + j))) → uMakesF s dd l = some (l', s1) →
    ∃ G', Rel G' s1 a w ∧ l'.length = l.length ∧ (∀ j, j < l.length → OwnC G' w (.rs 0 (k + j)) (l'.getD j .undef) (X (k + j))) ∧ Fr s.lv G w G' w ∧ Le G G' ∧ (∀ g q, (∀ j, k ≤ j → q ≠ .rs 0 j) → G.ω g = some q → G'.ω g = some q) ∧ G'.S = G.S := by
  intro l
  induction l with
  | nil =>
    intro G s k dd l' s1 h hX hv
    obtain ⟨rfl, rfl⟩ := Prod.mk.inj (Option.some.inj hv)
    exact ⟨G, h, rfl, fun j hj => absurd hj (Nat.not_lt_zero _), Fr.refl _ _ _, Le.refl _, fun _ _ _ e => e, rfl⟩
  | cons c l ih =>
    intro G s k dd l' s1 h hX hv
    unfold uMakesF at hv
    split at hv
    · rename_i l2 s2 h1
      obtain ⟨⟨v, s3⟩, hr, he⟩ := Option.map_eq_some_iff.1 hv
      obtain ⟨rfl, rfl⟩ := Prod.mk.inj he
      obtain ⟨G1, a1, a2, a3, a4, a5, a6, a7⟩ := ih (k := k + 1) h (fun j hj => by
        have := hX (j + 1) (by simpa using hj)
        rw [show k + 1 + j = k + (j + 1) by omega]
        exact this) h1
      have hc : OwnC G1 w (.rs 0 k) c (X k) := (hX 0 (by simp)).mono a5 fun g hg => ⟨rfl, fun i => by rw [a7], a6 g _ (fun j hj e => by injection e; omega) hg⟩
      obtain ⟨G2, b1, b2, b3, b4, b5, b6⟩ := uMakeF_ok a1 hc hr
      have hlv : s2.lv = s.lv := (uMakesF_grew h1).lv
      refine ⟨G2, b1, by simp [a2], fun j hj => ?_, a4.trans (by rw [hlv] at b3; exact b3), ⟨fun g j c e => b4.S _ _ _ (a5.S _ _ _ e), fun l t g e => b4.β _ _ _ (a5.β _ _ _ e)⟩, fun g q hq e => b5 g q (hq k (Nat.le_refl _)) (a6 g q (fun j hj => hq j (by omega)) e), b6.trans a7⟩
      cases j with
      | zero => exact b2
      | succ j =>
        have := a3 j (by simpa using hj)
        rw [show k + 1 + j = k + (j + 1) by omega] at this
        exact this.mono b4 fun g hg => ⟨rfl, fun i => by rw [b6], b5 g _ (fun e => by injection e; omega) hg⟩
    · cases hv
/-- a value, cell by cell, put into a variable -/
theorem boxStore {s' : St} {lv u off g : Nat} {cs cv : List V} {t : TypeId} {X : Value} (h1 : Rel G s' a w) (ho : s'.ob lv u = some (.box cs)) (hg : G.β lv u = some g) (hl : cv.length = szOf P t) (hx : X.cells.size = szOf P t) (hb : off + szOf P t ≤ cs.length) (hz : szOf P t ≠ 0) (hok : cv.all cellOk = true)
    (q2 : ∀ j, j < cv.length → OwnC G w (.rs 0 j) (cv.getD j .undef) (X.cells.getD j Go.undef)) : ∃ w' G', (storeVar t ⟨g, off, none⟩ X).run P w = .ok () w' ∧ Rel G' (s'.setOb lv u (.box (setL cs off cv))) a w' ∧ Fr s'.lv G w G' w' := by
  obtain ⟨g', hg', hω, en, ety, hbk, hlen, hS, hT⟩ := h1.obj lv u _ ho
  obtain rfl : g' = g := by rw [hg] at hg'; exact (Option.some.inj hg').symm
  have hone : ∀ z ∈ X.cells.toList, z.oneCell' = true := by
    intro z hz'
    obtain ⟨j, hj, rfl⟩ := List.getElem_of_mem hz'
    have hj' : j < cv.length := by simp at hj; omega
    have := q2 j hj'
    have hc : cellOk (cv.getD j .undef) = true := by
      rw [List.all_eq_true] at hok
      refine hok _ ?_
      rw [List.getD_eq_getElem?_getD, List.getElem?_eq_getElem hj', Option.getD_some]
      exact List.getElem_mem hj'
    have := (this.one hc).2
    rw [getD_array_of (by simpa using hj)] at this
    simpa using this
  have hst := store_run (P := P) hz hbk hx (off := off) (by omega) hone
  have hnew := setRow_heap w g' en (en.toList.take off ++ X.cells.toList ++ en.toList.drop (off + szOf P t)).toArray ety _ hbk
  generalize hw' : w.setRow g' (en.toList.take off ++ X.cells.toList ++ en.toList.drop (off + szOf P t)).toArray = w' at hst hnew
  have hoth : ∀ k, k ≠ g' → w'.heap[k]? = w.heap[k]? := fun k hk => by rw [← hw']; exact setRow_other w g' k _ hk
  have hws : w'.heap.size = w.heap.size := by rw [← hw']; simp
  refine ⟨w', _, hst, h1.setOb (G' := G.ren (putOF lv u off)) ho hg hω (G.ren_le _) rfl (fun k p hk hp hr hpk => ⟨hoth k hk, fun _ => rfl, ?_⟩) (fun k j c hc => ?_) (fun k p hp => by rw [hws]; exact ren_lim h1.lim k p hp) (by rw [ren_ω hω]; rfl) ?_, ⟨by rw [← hw']; rfl, by rw [← hw']; rfl, by rw [← hw']; rfl, by rw [hws]; exact Nat.le_refl _, fun k hk hm => ⟨hoth k (by rintro rfl; exact hm _ hω trivial), ?_, fun _ => rfl⟩, fun _ _ _ e => e, fun _ _ _ => rfl⟩⟩
  · rw [ren_ω hpk]
    cases p with
    | rs c j => exact absurd rfl (hr c j)
    | _ => rfl
  · have hkg : k ≠ g' := by rintro rfl; have : G.S k j = some c := hc; rw [hS] at this; cases this
    have := h1.imm _ _ _ hc
    simp only [World.cell?, hoth k hkg]
    exact this
  · refine ⟨_, ety, hnew, ?_, hS, fun j hj => ?_⟩
    · rw [length_setL _ _ _ (by omega), size_row (by simp [hx]) (by omega)]; exact hlen
    · rw [length_setL _ _ _ (by omega)] at hj
      rw [getD_setL _ _ _ _ (by omega), getD_row (by simp [hx]) (by omega), hl]
      by_cases hin : off ≤ j ∧ j < off + szOf P t
      · rw [if_pos hin, if_pos hin]
        have := q2 (j - off) (by omega)
        have h8 := (this.ren (putOF lv u off) (p' := .cl lv u j) (by simp only [putOF]; congr 1; omega)).mono (G' := G.ren (putOF lv u off)) (w' := w') (p' := .cl lv u j) ⟨fun _ _ _ e => e, fun _ _ _ e => e⟩ (fun k hk => ⟨hoth k (by
          rintro rfl
          have hω' := ren_ω (f := putOF lv u off) hω
          rw [hk] at hω'
          cases hω'), fun _ => rfl, hk⟩)
        simpa [List.getD_eq_getElem?_getD, Array.getD_eq_getD_getElem?] using h8
      · rw [if_neg hin, if_neg hin]
        exact (hT j hj).mono (G.ren_le _) (fun k hk => ⟨hoth k (by rintro rfl; rw [hω] at hk; cases hk), fun _ => rfl, by rw [ren_ω hk]; rfl⟩)
  · cases hωk : G.ω k with
    | none => simp [Gh.ren, hωk]
    | some p =>
      rw [ren_ω hωk]
      cases p with
      | rs c j => exact absurd trivial (hm _ hωk)
      | _ => rfl
/-- what makes objects of cells -/
structure MksOk (mk : St → Nat → List V → Option (List V × St)) : Prop where
  grew : ∀ {l : List V} {s : St} {dd : Nat} {l' : List V} {s1 : St}, mk s dd l = some (l', s1) → Grew s s1
  ok : ∀ {a : Act} {w : World} {X : Nat → Value} {l : List V} {G : Gh} {s : St} {k dd : Nat} {l' : List V} {s1 : St}, Rel G s a w → (∀ j, j < l.length → OwnC G w (.rs 0 (k + j)) (l.getD j .undef) (X (k + j))) → mk s dd l = some (l', s1) →
    ∃ G', Rel G' s1 a w ∧ l'.length = l.length ∧ (∀ j, j < l.length → OwnC G' w (.rs 0 (k + j)) (l'.getD j .undef) (X (k + j))) ∧ Fr s.lv G w G' w ∧ Le G G' ∧ (∀ g q, (∀ j, k ≤ j → q ≠ .rs 0 j) → G.ω g = some q → G'.ω g = some q) ∧ G'.S = G.S
theorem mkOk_M : MksOk uMakes := ⟨uMakes_grew, uMakes_ok⟩
theorem mkOk_F : MksOk uMakesF := ⟨uMakesF_grew, uMakesF_ok⟩
theorem op_storeM {mk : St → Nat → List V → Option (List V × St)} (hmk : MksOk mk) {x y : Operand} {t : TypeId} {s1 : St} (h : Rel G s a w) (hv : uStoreM P mk s t y (s.see P 0 x) = some s1) : OpU P ⟨d, .store t x y, ty, pos, af, gd⟩ G s a w s1 := by
  have hx := h.see P 0 x
  unfold uStoreM at hv
  generalize s.see P 0 x = xv at hv hx
  split at hv
  · rename_i lv u off
    dsimp only at hv
    split at hv
    · rename_i hc
      obtain ⟨hlvu, hl⟩ := hc
      have hs1 : s.all P t y ≠ .undef ∧ (∀ l, s.all P t y ≠ .tup l) ∧ ∃ cs' s2, mk (s.drop y) (s.n + 64 * u + off) (s.all P t y).flat = some (cs', s2) ∧ ∃ cs, s2.ob lv u = some (.box cs) ∧ (off + szOf P t ≤ cs.length ∧ szOf P t ≠ 0 ∧ cs'.all cellOk ∧ cs'.all (lowV lv)) ∧ s1 = s2.setOb lv u (.box (setL cs off cs')) := by
        split at hv
        · cases hv
        · cases hv
        · rename_i n1 n2
          refine ⟨fun e => n2 e, fun l e => n1 l e, ?_⟩
          split at hv
          · rename_i cs' s2 hm
            refine ⟨cs', s2, hm, ?_⟩
            split at hv
            · rename_i cs ho
              split at hv
              · rename_i hcc
                exact ⟨cs, ho, hcc, (Option.some.inj hv).symm⟩
              · cases hv
            · cases hv
          · cases hv
      obtain ⟨hu, ht, cs', s2, hm, cs, ho, ⟨hb, hz, hok, _⟩, rfl⟩ := hs1
      obtain ⟨G1, h1, h2, h3, _, h5, h6⟩ := h.all P t y
      obtain ⟨q1, q2⟩ := (h2.toV ht).cells hu ht
      obtain ⟨G2, m1, m2, m3, m4, m5, m6, m7⟩ := hmk.ok (X := fun j => (a.eval y).cells.getD j Go.undef) (k := 0) h1 (fun j hj => by rw [Nat.zero_add]; exact q2 j hj) hm
      obtain ⟨g, hg, hxe⟩ := hx.ptr_inv
      rw [← h6] at hg
      obtain ⟨w', G3, n1, n2, n3⟩ := boxStore (P := P) (t := t) (X := a.eval y) m1 ho (m5.β _ _ _ hg) (by rw [m2]; exact hl) (by omega) hb hz hok (fun j hj => by
        have := m3 j (by omega)
        rw [Nat.zero_add] at this
        exact this)
      have hlv2 : s2.lv = s.lv := by rw [(hmk.grew hm).lv, drop_lv]
      refine ⟨w', G3, ?_, n2, (h3.trans (by rw [drop_lv] at m4; exact m4)).trans (by rw [hlv2] at n3; exact n3)⟩
      simp only [execOp, Instr.storeAt, hxe, Instr.sureAddr, Sem.run_bind, Sem.run_pure, Result.andThen_ok, n1]
    · cases hv
  · cases hv
/-- a variable's list made an object -/
theorem op_takeM {i dd : Nat} {v : V} {s1 : St} (h : Rel G s a w) (op : Op) (hop : op = .move (.tmp i) ∨ op = .assign (.tmp i)) (hv : uMake (s.drop (.tmp i)) dd (s.t i) = some (v, s1)) :
    OpOk P ⟨d, op, ty, pos, af, gd⟩ G s a w v s1 := by
  obtain ⟨G', h1, h2, h3, _⟩ := h.take i
  have hrun : (execOp a.eval ⟨d, op, ty, pos, af, gd⟩).run P w = .ok (.value (a.eval (.tmp i))) w := by rcases hop with rfl | rfl <;> rfl
  by_cases hq : ∃ sz l, s.t i = .uq sz l
  · obtain ⟨sz, l, hq⟩ := hq
    have h2' : OwnC G' w (.rs 0 0) (s.t i) (a.tmps.getD i undef) := by rw [hq] at h2 ⊢; exact h2
    obtain ⟨G2, m1, m2, m3, _⟩ := uMake_ok h1 h2' hv
    have hf : OwnS G2 w Pl.rs v (a.eval (.tmp i)) := by
      rw [hq] at hv
      unfold uMake at hv
      split at hv
      · obtain ⟨rfl, rfl⟩ := Prod.mk.inj (Option.some.inj hv); exact m2
      · split at hv
        · split at hv
          · obtain ⟨rfl, rfl⟩ := Prod.mk.inj (Option.some.inj hv); exact m2
          · cases hv
        · have hc := mkC_cellD _ hv
          cases v <;> first | exact m2 | (cases hc; done)
      · rename_i e; cases e
      · obtain ⟨rfl, rfl⟩ := Prod.mk.inj (Option.some.inj hv); exact m2
    exact ⟨_, w, G2, hrun, m1, hf, h3.trans m3⟩
  · by_cases hn : ∃ l, s.t i = .nw l
    · obtain ⟨l, hn⟩ := hn
      have h2' : OwnC G' w (.rs 0 0) (s.t i) (a.tmps.getD i undef) := by rw [hn] at h2 ⊢; exact h2
      obtain ⟨G2, m1, m2, m3, _⟩ := uMake_ok h1 h2' hv
      have hf : OwnS G2 w Pl.rs v (a.eval (.tmp i)) := by
        rw [hn] at hv
        unfold uMake at hv
        dsimp only at hv
        split at hv
        · split at hv
          · obtain ⟨rfl, rfl⟩ := Prod.mk.inj (Option.some.inj hv); exact m2
          · cases hv
        · cases hv
      exact ⟨_, w, G2, hrun, m1, hf, h3.trans m3⟩
    have : v = s.t i ∧ s1 = s.drop (.tmp i) := by
      unfold uMake at hv
      split at hv
      · rename_i e; exact absurd ⟨_, _, e⟩ hq
      · rename_i e; exact absurd ⟨_, _, e⟩ hq
      · rename_i e; exact absurd ⟨_, e⟩ hn
      · obtain ⟨rfl, rfl⟩ := Prod.mk.inj (Option.some.inj hv); exact ⟨rfl, rfl⟩
    obtain ⟨rfl, rfl⟩ := this
    exact ⟨_, w, G', hrun, h1, h2, h3⟩
theorem op_frz {i : Nat} {v : V} {s1 : St} {t : TypeId} (h : Rel G s a w) (op : Op) (hop : op = .move (.tmp i) ∨ op = .assign (.tmp i)) (hv : s.tree P t (.tmp i) = some (v, s1)) :
    OpOk P ⟨d, op, ty, pos, af, gd⟩ G s a w v s1 := by
  obtain ⟨G', h1, h2, h3, _⟩ := h.tree hv
  exact ⟨a.eval (.tmp i), w, G', by rcases hop with rfl | rfl <;> rfl, h1, OwnS.of_tr' h3, h2.fr⟩
/-- what an operation gives, written no more -/
theorem OpOk.settle {P : Program} {o : Oper} {s s1 : St} {v : V} (hl : s1.lv = s.lv) (h : OpOk P o G s a w v s1) : OpOk P o G s a w v.settle s1 := by
  obtain ⟨x, w', G1, h1, h2, h3, h4⟩ := h
  obtain ⟨G2, k1, k2, k3⟩ := h2.settle h3
  exact ⟨x, w', G2, h1, k1, k2, h4.trans (hl ▸ k3)⟩
end Go.Ev
