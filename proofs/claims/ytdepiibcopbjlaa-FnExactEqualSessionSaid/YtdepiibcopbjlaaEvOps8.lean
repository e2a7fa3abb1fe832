/- append. -/
import Derived.Test.YtdepiibcopbjlaaEvOps7
namespace Go.Ev
open Go
set_option linter.unusedVariables false
set_option linter.unusedSimpArgs false
variable {P : Program} {G : Gh} {s : St} {a : Act} {w : World} {o : Oper}
variable {d : Option Nat} {ty : TypeId} {pos : String} {af : Array Edge} {gd : Option (Nat × Bool)}

theorem Rel.drew (h : Rel G s a w) : Rel G s a w.drew := ⟨h.size, h.defers, h.slot, h.obj, h.dom, h.imm, h.lim⟩
theorem Fr.drew {lv : Nat} {G' : Gh} {w' : World} (h : Fr lv G w.drew G' w') : Fr lv G w G' w' := ⟨h.os, h.tape, h.output, h.size, h.keep, h.imm, h.outer⟩
theorem app_room {t tx tyy e : TypeId} {i : TypeInfo} {dx : TypeDesc} {A : Option Addr} {n cap m : Nat} {Y : Value} {news : List Value} (ht : P.underlying t = some (.slice e)) (hi : P.info? e = some i) (hx : P.underlying tx = some dx) (hk : ∀ k, dx ≠ .int k)
    (hlen : (Builtin.lenOf Y).run P w = .ok m w) (hf : (Builtin.firstCells i.size m Y).run P w = .ok news.toArray w) (hroom : n + m ≤ cap) :
    (Builtin.append_ #[t, tx] tyy #[.slice A n cap, Y]).run P w = match A with
      | none => .ok (.slice none (n + m) cap) w
      | some b => ((storeCells (b.add (n * i.size)) news).run P w).andThen fun _ w' => .ok (.slice (some b) (n + m) cap) w' := by
  have hz : (dx matches .int _) = false := by cases dx <;> first | rfl | exact absurd rfl (hk _)
  cases A <;> simp [Builtin.append_, run_underlying ht, run_underlying hx, sizeOf, typeInfo, hi, hz, hlen, hroom, hf]
theorem app_grow {t tx tyy e : TypeId} {i : TypeInfo} {z : Value} {dx : TypeDesc} {A : Option Addr} {n cap m : Nat} {Y : Value} {news olds : List Value} (ht : P.underlying t = some (.slice e)) (hi : P.info? e = some i) (hz : i.zero = some z) (hx : P.underlying tx = some dx) (hk : ∀ k, dx ≠ .int k)
    (hlen : (Builtin.lenOf Y).run P w = .ok m w) (hf : (Builtin.firstCells i.size m Y).run P w.drew = .ok news.toArray w.drew) (ho : (Builtin.firstCells i.size n (.slice A n cap)).run P w.drew = .ok olds.toArray w.drew) (hb0 : 0 < i.bytes)
    (hg : cap < n + m) (hfit : (n + m) * i.bytes ≤ 140737488355328) :
    (Builtin.append_ #[t, tx] tyy #[.slice A n cap, Y]).run P w = .ok (.slice (some ⟨w.heap.size, 0, none⟩) (n + m) (grownCap w (n + m) cap e))
        (w.drew.alloc (.cells (olds.toArray ++ news.toArray ++ Builtin.zeroCells z.cells (grownCap w (n + m) cap e - (n + m))) e)) := by
  have hzz : (dx matches .int _) = false := by cases dx <;> first | rfl | exact absurd rfl (hk _)
  have hn : ¬ (n + m ≤ cap) := by omega
  have h1 : n + m ≤ (n + m) * i.bytes := Nat.le_mul_of_pos_right _ hb0
  have h63' : ¬ (9223372036854775807 < ((n : Int) + (m : Int))) := by omega
  have h48 := growslice_fits hg hfit
  have h48' : ¬ (281474976710656 < Builtin.nextslicecap (n + m) cap * i.bytes) := by omega
  simp [Builtin.append_, run_underlying ht, run_underlying hx, sizeOf, typeInfo, zeroValue, hi, hz, hzz, hlen, hn, h63', h48', Question.forced, hf, ho, Go.newRow, grownCap]
  congr 2
  apply Array.ext'
  simp [List.append_assoc]
theorem add_add (b o n m : Nat) : ((⟨b, o, none⟩ : Addr).add n).add m = ⟨b, o + n + m, none⟩ := by rw [add_eq, add_eq]
/-- the cells of what is appended (or of what it is appended to) -/
theorem src_slc (h : Rel G s a w) {sz : Nat} (hz : 0 < sz) {l : List V} {x : Value} (hv : Tr G.S G.β (.slc false sz l) x) : ∃ cs : List Value, (Builtin.lenOf x).run P w = .ok l.length w ∧ (Builtin.firstCells sz l.length x).run P w = .ok cs.toArray w ∧ (Builtin.firstCells sz l.length x).run P w.drew = .ok cs.toArray w.drew ∧
    Laid G sz l cs.toArray ∧ cs.length = l.length * sz ∧ ∀ u ∈ cs, u.oneCell' = true := by
  rcases hv.slc_inv with ⟨rfl, A0, cap0, rfl⟩ | ⟨b, o, cap, c, rfl, hc, hs, hS, hT⟩
  · exact ⟨[], rfl, by cases A0 <;> first | rfl | simp [Builtin.firstCells, loadCells, loadCellsFrom], by cases A0 <;> first | rfl | simp [Builtin.firstCells, loadCells, loadCellsFrom], ⟨by simp, (fun x hx => by cases hx), fun i j hi => absurd hi (Nat.not_lt_zero _)⟩, by simp, fun u hu => by cases hu⟩
  · have e1 := slc_cells h hS P
    have e2 := slc_cells h.drew hS P
    have hlen : ((List.range (l.length * sz)).map fun k => c (k / sz) (k % sz)).length = l.length * sz := by simp
    refine ⟨(List.range (l.length * sz)).map fun k => c (k / sz) (k % sz), rfl, e1, e2, ⟨by simp, hs, fun i j hi hj => ?_⟩, hlen, fun u hu => ?_⟩
    · have h5 := cell_lt hi hj
      have d1 : (i * sz + j) / sz = i := by rw [Nat.mul_comm, Nat.mul_add_div hz, Nat.div_eq_of_lt hj, Nat.add_zero]
      have d2 : (i * sz + j) % sz = j := by rw [Nat.mul_comm, Nat.mul_add_mod, Nat.mod_eq_of_lt hj]
      have : ((List.range (l.length * sz)).map fun k => c (k / sz) (k % sz)).toArray.getD (i * sz + j) Go.undef = c i j := by
        simp [Array.getD, h5, d1, d2]
      rw [this]
      exact hT i j hi hj
    · obtain ⟨k, hk, rfl⟩ := List.mem_map.1 hu
      have hk' : k < l.length * sz := by simpa using hk
      have h1 : k / sz < l.length := Nat.div_lt_of_lt_mul (by rw [Nat.mul_comm]; exact hk')
      have h2 : k % sz < sz := Nat.mod_lt _ hz
      have h3 := hT _ _ h1 h2
      have h4 := hs (l.getD (k / sz) .undef) (by rw [List.getD_eq_getElem?_getD, List.getElem?_eq_getElem h1]; exact List.getElem_mem h1)
      have h5 : pureC ((l.getD (k / sz) .undef).flat.getD (k % sz) .undef) = true := by
        have hlt : k % sz < (l.getD (k / sz) .undef).flat.length := by rw [h4.1]; exact h2
        have := h4.2
        rw [List.all_eq_true] at this
        refine this _ ?_
        rw [List.getD_eq_getElem?_getD (l := (l.getD (k / sz) .undef).flat), List.getElem?_eq_getElem hlt]
        exact List.getElem_mem hlt
      refine (cells_one h3 ?_ ?_).2
      · intro e; rw [e] at h5; cases h5
      · intro l e; rw [e] at h5; cases h5
theorem src_str {sz : Nat} (b : ByteArray) : ∃ cs : List Value, (Builtin.lenOf (.string b)).run P w = .ok b.size w ∧ (Builtin.firstCells 1 b.size (.string b)).run P w = .ok cs.toArray w ∧ (Builtin.firstCells 1 b.size (.string b)).run P w.drew = .ok cs.toArray w.drew ∧
    Laid G 1 (bytesV b) cs.toArray ∧ cs.length = (bytesV b).length * 1 ∧ (bytesV b).length = b.size ∧ ∀ u ∈ cs, u.oneCell' = true := by
  have hl : (bytesV b).length = b.size := by simp [bytesV]
  have hx : (b.extract 0 b.size) = b := by simp
  refine ⟨b.data.toList.map fun c => .int .u8 (c.toNat : Int), rfl, ?_, ?_, ⟨?_, fun x hx => ?_, fun i j hi hj => ?_⟩, by simp [bytesV], hl, fun u hu => ?_⟩
  · simp only [Builtin.firstCells, Sem.run_pure, hx]
    congr 1
    apply Array.ext'
    simp
  · simp only [Builtin.firstCells, Sem.run_pure, hx]
    congr 1
    apply Array.ext'
    simp
  · simp [bytesV]
  · obtain ⟨c, _, rfl⟩ := List.mem_map.1 hx; exact ⟨rfl, rfl⟩
  · obtain rfl : j = 0 := by omega
    have hi' : i < b.data.toList.length := by simpa [bytesV] using hi
    have e1 : (bytesV b).getD i .undef = .int .u8 ((b.data.toList[i]).toNat : Int) := by
      simp only [bytesV, List.getD_eq_getElem?_getD, List.getElem?_map, List.getElem?_eq_getElem hi', Option.map_some, Option.getD_some]
    have e2 : ((b.data.toList.map fun c => Value.int .u8 (c.toNat : Int)).toArray).getD (i * 1 + 0) Go.undef = .int .u8 ((b.data.toList[i]).toNat : Int) := by
      have : i < b.data.size := by simpa using hi'
      have h' : i < b.size := this
      simp [Array.getD, this, h']
    rw [e1, e2]
    exact Tr.int _ _
  · obtain ⟨c, _, rfl⟩ := List.mem_map.1 hu; rfl
theorem Laid.append {sz : Nat} {l m : List V} {cs ds rest : List Value} (h : Laid G sz l cs.toArray) (k : Laid G sz m ds.toArray) (hl : cs.length = l.length * sz) (hm : ds.length = m.length * sz) : Laid G sz (l ++ m) (cs ++ ds ++ rest).toArray := by
  refine ⟨by simp [hl, hm, Nat.add_mul], fun x hx => ?_, fun i j hi hj => ?_⟩
  · rcases List.mem_append.1 hx with hx | hx
    · exact h.2.1 x hx
    · exact k.2.1 x hx
  · by_cases h1 : i < l.length
    · have e1 : (l ++ m).getD i .undef = l.getD i .undef := by simp [List.getD_eq_getElem?_getD, List.getElem?_append_left h1]
      have h2 := cell_lt h1 hj
      have e2 : (cs ++ ds ++ rest).toArray.getD (i * sz + j) Go.undef = cs.toArray.getD (i * sz + j) Go.undef := by
        simp only [Array.getD_eq_getD_getElem?, List.getElem?_toArray, List.append_assoc]
        rw [List.getElem?_append_left (by omega)]
      rw [e1, e2]
      exact h.2.2 i j h1 hj
    · have h3 : i - l.length < m.length := by simp at hi; omega
      have e1 : (l ++ m).getD i .undef = m.getD (i - l.length) .undef := by simp [List.getD_eq_getElem?_getD, List.getElem?_append_right (by omega : l.length ≤ i)]
      have h2 := cell_lt h3 hj
      have h4 : i * sz = l.length * sz + (i - l.length) * sz := by rw [← Nat.add_mul]; congr 1; omega
      have e2 : (cs ++ ds ++ rest).toArray.getD (i * sz + j) Go.undef = ds.toArray.getD ((i - l.length) * sz + j) Go.undef := by
        simp only [Array.getD_eq_getD_getElem?, List.getElem?_toArray, List.append_assoc]
        rw [List.getElem?_append_right (by omega), List.getElem?_append_left (by omega)]
        congr 2
        omega
      rw [e1, e2]
      exact k.2.2 _ j h3 hj
def Gh.tail (G : Gh) (g lo hi : Nat) (news : List Value) : Gh := { G with S := fun k j => if k = g ∧ lo ≤ j ∧ j < hi then news[j - lo]? else G.S k j }
theorem grow_core (h : Rel G s a w) {t tx e : TypeId} {sz : Nat} {l m : List V} {X Y : Value} {news : List Value} {dx : TypeDesc} (hgr : growB P t = true) (hse : sz = elemSz P t) (he : P.underlying t = some (.slice e)) (hx : P.underlying tx = some dx) (hk : ∀ k, dx ≠ .int k)
    (hX : OwnS G w Pl.rs (.slc true sz l) X) (hlen : (Builtin.lenOf Y).run P w = .ok m.length w) (hf : (Builtin.firstCells sz m.length Y).run P w = .ok news.toArray w) (hf' : (Builtin.firstCells sz m.length Y).run P w.drew = .ok news.toArray w.drew)
    (hL : Laid G sz m news.toArray) (hn : news.length = m.length * sz) (h1 : ∀ u ∈ news, u.oneCell' = true) (hb : (l.length + m.length) * P.bytesOf e ≤ 140737488355328) :
    ∃ x w' G', (Builtin.append_ #[t, tx] ty #[X, Y]).run P w = .ok x w' ∧ Rel G' s a w' ∧ OwnS G' w' Pl.rs (.slc true sz (l ++ m)) x ∧ Fr s.lv G w G' w' := by
  have hee : elemOf P t = e := by simp [elemOf, he]
  unfold growB at hgr
  simp only [Bool.and_eq_true, bne_iff_ne, ne_eq] at hgr
  obtain ⟨⟨⟨_, hnz⟩, hbz⟩, hzz⟩ := hgr
  have hszz : sz = szOf P e := by rw [hse]; simp [elemSz, hee]
  have hnz' : szOf P e ≠ 0 := by rw [← hszz, hse]; exact hnz
  obtain ⟨i, d, g1, g2, g3, g4⟩ := szOf_ne hnz'
  rw [hee] at hbz hzz
  have hbe : P.bytesOf e = i.bytes := by simp [Program.bytesOf, g1]
  cases hzo : zero P e with
  | none => rw [hzo] at hzz; cases hzz
  | some z =>
    rw [hzo] at hzz
    have hzl : z.length = szOf P e := by have : z.length = elemSz P t := by simpa using hzz
                                         rw [this, ← hse, hszz]
    obtain ⟨zv, k1, k2, k3, _⟩ := zero_spec hzo
    have hzi : i.zero = some zv := by
      have := k1 default
      simp only [zeroValue, Sem.run_bind, typeInfo, run_program, Result.andThen_ok, g1, Sem.run_pure] at this
      cases hh : i.zero with
      | none => simp [hh] at this
      | some y => simp [hh] at this; rw [this]
    have hpos : 0 < sz := by omega
    have hX0 := hX
    have hsi : i.size = sz := by omega
    obtain ⟨hXt, A, cap, rfl, hown⟩ : Tr G.S G.β (.slc false sz l) X ∧ ∃ a cap, X = .slice a l.length cap ∧ (cap = l.length ∨ ∃ g cs ty, a = some ⟨g, 0, none⟩ ∧ G.ω g = some (.rs 0 0) ∧ w.heap[g]? = some (.cells cs ty (0, 0)) ∧ cs.size = cap * sz ∧ ∀ j, l.length * sz ≤ j → G.S g j = none) := hX
    obtain ⟨olds, o1, o2, o3, o4, o5, o6⟩ := src_slc (P := P) h hpos hXt
    have hcl : l.length ≤ cap := by
      rcases hXt.slc_inv with ⟨rfl, _⟩ | ⟨b, o, cap', c, hh, hc, _⟩
      · exact Nat.zero_le _
      · cases hh; exact hc
    by_cases hroom : l.length + m.length ≤ cap
    · have hr := app_room (P := P) (w := w) (t := t) (tx := tx) (tyy := ty) (A := A) (n := l.length) (cap := cap) (Y := Y) he g1 hx hk hlen (by rw [hsi]; exact hf) hroom
      rcases hown with hown | ⟨g, cs, cty, rfl, hω, hg, hcs, hS⟩
      · -- nothing comes to it
        have hm0 : m = [] := List.eq_nil_of_length_eq_zero (by omega)
        subst hm0
        have hn0 : news = [] := List.eq_nil_of_length_eq_zero (by simpa using hn)
        subst hn0
        refine ⟨.slice A l.length cap, w, G, ?_, h, ?_, Fr.refl _ _ _⟩
        · rw [hr]
          cases A <;> simp [storeCells]
        · rw [List.append_nil]; exact hX0
      · have hfit : l.length * sz + news.length ≤ cs.size := by rw [hn, hcs, ← Nat.add_mul]; exact Nat.mul_le_mul_right _ hroom
        have hst := run_storeCells_at P g (l.length * sz) cty news 0 cs w hg (by simpa using hfit) h1
        simp only [Nat.add_zero] at hst
        have hnew : (w.setRow g (cs.toList.take (l.length * sz) ++ news ++ cs.toList.drop (l.length * sz + news.length)).toArray).heap[g]? = some (.cells (cs.toList.take (l.length * sz) ++ news ++ cs.toList.drop (l.length * sz + news.length)).toArray cty (0, 0)) := setRow_heap w g cs _ cty _ hg
        generalize hw' : w.setRow g (cs.toList.take (l.length * sz) ++ news ++ cs.toList.drop (l.length * sz + news.length)).toArray = w' at hst hnew
        have hoth : ∀ k, k ≠ g → w'.heap[k]? = w.heap[k]? := fun k hk => by rw [← hw']; exact setRow_other w g k _ hk
        have hGoth : ∀ k, k ≠ g → ∀ j, (G.tail g (l.length * sz) ((l.length + m.length) * sz) news).S k j = G.S k j := fun k hk j => by
          show (if k = g ∧ _ then _ else _) = _
          rw [if_neg (fun e => hk e.1)]
        have hle : Le G (G.tail g (l.length * sz) ((l.length + m.length) * sz) news) := ⟨fun k j c hc => by
          show (if k = g ∧ _ then _ else _) = _
          rw [if_neg (by rintro ⟨rfl, h2, _⟩; rw [hS j h2] at hc; cases hc)]; exact hc, fun _ _ _ e => e⟩
        have hws : w'.heap.size = w.heap.size := by rw [← hw']; simp
        have hSg : ∀ j, l.length * sz ≤ j → j < (l.length + m.length) * sz → (G.tail g (l.length * sz) ((l.length + m.length) * sz) news).S g j = news[j - l.length * sz]? := fun j h2 h3 => by
          show (if g = g ∧ _ then _ else _) = _
          rw [if_pos ⟨rfl, h2, h3⟩]
        have hcell : ∀ j, w'.cell? ⟨g, j, none⟩ = (cs.toList.take (l.length * sz) ++ news ++ cs.toList.drop (l.length * sz + news.length))[j]? := fun j => by simp only [World.cell?, hnew]; simp
        have hlz : l.length * sz ≤ cs.size := by omega
        refine ⟨.slice (some ⟨g, 0, none⟩) (l.length + m.length) cap, w', G.tail g (l.length * sz) ((l.length + m.length) * sz) news, ?_, h.grow hle rfl (fun k p hp hpk => ?_) (fun k j c hc => ?_) (fun k p hp => by rw [hws]; exact h.lim k p hp), ?_, ⟨by rw [← hw']; rfl, by rw [← hw']; rfl, by rw [← hw']; rfl, by rw [hws]; exact Nat.le_refl _, fun k hk hm => ?_, hle.S, fun _ _ _ => rfl⟩⟩
        · rw [hr]
          show ((storeCells ((⟨g, 0, none⟩ : Addr).add (l.length * i.size)) news).run P w).andThen _ = _
          rw [hsi, add_eq, Nat.zero_add, hst]
          rfl
        · have hkg : k ≠ g := by rintro rfl; rw [hω] at hpk; cases hpk; exact hp 0 0 rfl
          exact ⟨hoth k hkg, hGoth k hkg, hpk⟩
        · by_cases hkg : k = g
          · subst hkg
            have hc' : (if k = k ∧ l.length * sz ≤ j ∧ j < (l.length + m.length) * sz then news[j - l.length * sz]? else G.S k j) = some c := hc
            rw [hcell]
            split at hc'
            · rename_i hh
              rw [List.append_assoc, List.getElem?_append_right (by simp; omega)]
              simp only [List.length_take, Array.length_toList, Nat.min_eq_left hlz]
              rw [List.getElem?_append_left (by have h2 := hh.2.2; rw [Nat.add_mul] at h2; have h3 := hh.2.1; omega)]
              exact hc'
            · have hj : j < l.length * sz := by
                rcases Nat.lt_or_ge j (l.length * sz) with h' | h'
                · exact h'
                · rw [hS j h'] at hc'; cases hc'
              have := h.imm _ _ _ hc'
              simp only [World.cell?, hg] at this
              rw [List.append_assoc, List.getElem?_append_left (by simp; omega), List.getElem?_take, if_pos hj]
              simpa using this
          · rw [hGoth k hkg] at hc
            have := h.imm _ _ _ hc
            simp only [World.cell?, hoth k hkg]
            exact this
        · have hLn := Laid.append (rest := cs.toList.drop (l.length * sz + news.length)) (o4.mono hle) (hL.mono hle) o5 hn
          have hlm : (l ++ m).length = l.length + m.length := by simp
          refine ⟨?_, some ⟨g, 0, none⟩, cap, by rw [hlm], .inr ⟨g, _, cty, rfl, hω, hnew, ?_, fun j hj => ?_⟩⟩
          · suffices hfin : Tr (G.tail g (l.length * sz) ((l.length + m.length) * sz) news).S (G.tail g (l.length * sz) ((l.length + m.length) * sz) news).β (.slc false sz (l ++ m)) (.slice (some ⟨g, 0, none⟩) (l ++ m).length cap) by rw [hlm] at hfin; exact hfin
            refine Tr.slc sz (l ++ m) g 0 cap (fun i j => (olds ++ news ++ cs.toList.drop (l.length * sz + news.length)).toArray.getD (i * sz + j) Go.undef) (by omega) hLn.2.1 (fun p q hp hq => ?_) hLn.2.2
            have h5 := cell_lt hp hq
            rw [Nat.zero_add]
            by_cases hlo : p * sz + q < l.length * sz
            · -- an elder element
              have hp' : p < l.length := by
                rcases Nat.lt_or_ge p l.length with h' | h'
                · exact h'
                · have := Nat.mul_le_mul_right sz h'; omega
              rcases hXt.slc_inv with ⟨rfl, _⟩ | ⟨b, o, cap', c, hh, hc, hs, hS0, hT0⟩
              · simp at hp'
              · cases hh
                have e1 := hle.S _ _ _ (hS0 p q hp' hq)
                rw [Nat.zero_add] at e1
                rw [e1]
                have e2 := slc_cells h hS0 P
                have e3 : (loadCells ⟨g, 0, none⟩ (l.length * sz)).run P w = .ok olds.toArray w := o2
                rw [e3] at e2
                have e4 : olds = (List.range (l.length * sz)).map fun k => c (k / sz) (k % sz) := by
                  have := (Result.ok.inj e2).1
                  simpa using this
                have d1 : (p * sz + q) / sz = p := by rw [Nat.mul_comm, Nat.mul_add_div hpos, Nat.div_eq_of_lt hq, Nat.add_zero]
                have d2 : (p * sz + q) % sz = q := by rw [Nat.mul_comm, Nat.mul_add_mod, Nat.mod_eq_of_lt hq]
                simp only [Array.getD_eq_getD_getElem?, List.getElem?_toArray, List.append_assoc]
                rw [List.getElem?_append_left (by omega), e4, List.getElem?_map, List.getElem?_range hlo]
                simp [d1, d2]
            · rw [hSg _ (by omega) (by rw [← hlm]; exact h5)]
              simp only [Array.getD_eq_getD_getElem?, List.getElem?_toArray, List.append_assoc]
              have h6 : p * sz + q - l.length * sz < news.length := by rw [hn]; rw [hlm, Nat.add_mul] at h5; omega
              rw [List.getElem?_append_right (by omega), List.getElem?_append_left (by omega), o5]
              rw [List.getElem?_eq_getElem h6, Option.getD_some]
          · simp only [List.size_toArray, List.length_append, List.length_take, List.length_drop, Array.length_toList]
            omega
          · show (if g = g ∧ _ then _ else _) = _
            rw [if_neg (fun e => by have := e.2.2; rw [hlm] at hj; omega)]
            exact hS j (by rw [hlm, Nat.add_mul] at hj; omega)
        · have hkg : k ≠ g := by rintro rfl; exact hm _ hω trivial
          exact ⟨hoth k hkg, rfl, hGoth k hkg⟩
    · have hr := app_grow (P := P) (w := w) (t := t) (tx := tx) (tyy := ty) (A := A) (n := l.length) (cap := cap) (Y := Y) (news := news) (olds := olds) he g1 hzi hx hk hlen (by rw [hsi]; exact hf') (by rw [hsi]; exact o3) (by omega) (by omega) (by rw [← hbe]; exact hb)
      have hge := grownCap_ge w (l.length + m.length) cap e
      have hzc : (Builtin.zeroCells zv.cells (grownCap w (l.length + m.length) cap e - (l.length + m.length))).size = (grownCap w (l.length + m.length) cap e - (l.length + m.length)) * sz := by
        rw [size_zeroCells, ← k2, hzl, hszz]
      have hLn := Laid.append (rest := (Builtin.zeroCells zv.cells (grownCap w (l.length + m.length) cap e - (l.length + m.length))).toList) o4 hL o5 hn
      have harr : olds.toArray ++ news.toArray ++ Builtin.zeroCells zv.cells (grownCap w (l.length + m.length) cap e - (l.length + m.length)) = (olds ++ news ++ (Builtin.zeroCells zv.cells (grownCap w (l.length + m.length) cap e - (l.length + m.length))).toList).toArray := by
        apply Array.ext'
        simp
      rw [harr] at hr
      have hlm : (l ++ m).length = l.length + m.length := by simp
      obtain ⟨G2, q1, q2, q3⟩ := h.drew.newRow (cap := grownCap w (l.length + m.length) cap e) hLn (by
        have hz2 : (Builtin.zeroCells zv.cells (grownCap w (l.length + m.length) cap e - (l.length + m.length))).toList.length = (grownCap w (l.length + m.length) cap e - (l.length + m.length)) * sz := by rw [Array.length_toList]; exact hzc
        rw [List.size_toArray, List.length_append, List.length_append, hz2, o5, hn, ← Nat.add_mul, ← Nat.add_mul]
        congr 1
        omega) (by rw [hlm]; exact hge) e
      refine ⟨_, _, G2, hr, q1, ?_, q3.drew⟩
      rw [hlm] at q2
      exact q2
theorem op_append {x y : Operand} {t t' : TypeId} {v : V} (h : Rel G s a w) (hv : appendV P t t' (s.all P t x) (s.see P t' y) = some v) :
    OpOk P ⟨d, .call { callee := .builtin .append, args := #[x, y], argTypes := #[t, t'] }, ty, pos, af, gd⟩ G s a w v (s.drop x) := by
  obtain ⟨G1, h1, h2, h3, _, h5, h6⟩ := h.all P t x
  have hy := h.see P t' y
  have h0 : ∀ own sz l, s.see P t' y = .slc own sz l → own = false := fun own sz l e => see_slc e
  rw [← h5, ← h6] at hy
  generalize s.see P t' y = yv at hv hy h0
  have hlv : (s.drop x).lv = s.lv := by cases x <;> rfl
  have fin : ∀ {x' : Value} {w' : World} {G' : Gh}, (Builtin.append_ #[t, t'] ty #[a.eval x, a.eval y]).run P w = .ok x' w' → Rel G' (s.drop x) a w' → OwnS G' w' Pl.rs v x' → Fr (s.drop x).lv G1 w G' w' → OpOk P ⟨d, .call { callee := .builtin .append, args := #[x, y], argTypes := #[t, t'] }, ty, pos, af, gd⟩ G s a w v (s.drop x) := by
    intro x' w' G' e1 e2 e3 e4
    refine ⟨x', w', G', run_builtin ?_, e2, e3, h3.trans (by rw [hlv] at e4; exact e4)⟩
    simp only [builtin, List.map_toArray, List.map_cons, List.map_nil, Sem.run_bind, e1, Result.andThen_ok, Sem.run_pure]
  unfold appendV at hv
  split at hv
  · rename_i sz l hx
    split at hv
    · rename_i hgr
      obtain ⟨hgr, hse⟩ := hgr
      obtain ⟨e, he, hel⟩ := isSl_spec (by simp only [growB, Bool.and_eq_true] at hgr; exact hgr.1.1.1)
      rw [hx] at h2
      split at hv
      · rename_i own sz' m
        obtain rfl := h0 _ _ _ rfl
        split at hv
        · rename_i hc
          obtain ⟨hsl, rfl⟩ := hc
          split at hv
          · rename_i hb
            obtain rfl := Option.some.inj hv
            obtain ⟨e', he', _⟩ := isSl_spec hsl
            have hpos : 0 < sz' := by
              simp only [growB, Bool.and_eq_true, bne_iff_ne] at hgr
              have := hgr.1.1.2
              omega
            obtain ⟨cs, c1, c2, c3, c4, c5, c6⟩ := src_slc (P := P) h1 hpos hy
            obtain ⟨x', w', G', e1, e2, e3, e4⟩ := grow_core (ty := ty) h1 hgr hse he he' (fun k e => by cases e) h2 c1 c2 c3 c4 c5 c6 (by rw [hel] at hb; exact hb)
            exact fin e1 e2 e3 e4
          · cases hv
        · cases hv
      · rename_i b
        split at hv
        · rename_i hc
          obtain ⟨hst, rfl⟩ := hc
          split at hv
          · rename_i hb
            obtain rfl := Option.some.inj hv
            have he' := isStr_spec hst
            obtain ⟨cs, c1, c2, c3, c4, c5, c5', c6⟩ := src_str (P := P) (G := G1) (w := w) (sz := 1) b
            rw [hy.str_inv] at fin
            rw [← c5'] at c1 c2 c3 hb
            obtain ⟨x', w', G', e1, e2, e3, e4⟩ := grow_core (ty := ty) h1 hgr hse he he' (fun k e => by cases e) h2 c1 c2 c3 c4 c5 c6 (by rw [hel] at hb; exact hb)
            exact fin e1 e2 e3 e4
          · cases hv
        · cases hv
      · cases hv
    · cases hv
  · cases hv
end Go.Ev
