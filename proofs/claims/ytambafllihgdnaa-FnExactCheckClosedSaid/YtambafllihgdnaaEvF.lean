/- Steps of a state, the reference's: all of them. Steps of a state, the program's. Closed lists of states. Sizes. Copies. Comparisons. The law of CheckClosed. Typed cells as the laws' data. -/
import Derived.Test.YtambafllihgdnaaProg
import Derived.Test.YtambafllihgdnaaEvE
import Derived.Test.YtambafllihgdnaaEvD
set_option linter.unusedVariables false
set_option linter.unusedSimpArgs false
namespace Go.Ev
open Go Go.Proofs
set_option maxRecDepth 10000
set_option maxHeartbeats 4000000
set_option linter.unusedVariables false
set_option linter.unusedSimpArgs false

theorem snocS (out : List Stp) (m : Mov) (s : Sta) : out.map Stp.enc ++ [V.agg [.int .u8 m.name, .str m.by_, .str s.left, .str s.right, .slc false 1 (s.maps.map I)]] = (out ++ [Stp.mk m s]).map Stp.enc := by simp [Stp.enc]
theorem r20 (f : Frm) (s : Sta) (h1 : f.mon.maps.length ≤ 1048576) (h2 : f.mon.letters.length ≤ 1048576) (h3 : f.mon.product.length ≤ 1048576) (h4 : ∀ r ∈ f.mon.product, r.length ≤ 1048576) (hm : s.maps.length ≤ 1048576) (hl : s.left.size ≤ 1048576) (hr : s.right.size ≤ 1048576) :
    run EE 20 [f.enc, s.enc] [] = some (.slc true 5 ((steps f s).map Stp.enc), []) := by
  have g := r41 f s h1 h2 h3 h4 hm hl hr
  have mo := r42 ⟨s.left, s.right⟩ hl hr
  have mvd : ∀ (m : Mov) (k : Int) (hg : GoodMove m) (h3 : s.maps.length = 3), _ := fun m k hg h3 => r44 s m k hg h3 hl hr
  have em : moves (strip ⟨s.left, s.right⟩) = movesS s := rfl
  have hgm := moves_good (strip ⟨s.left, s.right⟩)
  rw [em] at mo hgm
  have hbm : ∀ (c : Int) (h : GoodF f s) (c0 : 0 ≤ c) (c1 : c < 256) (hc : isVar c = true ∨ 0 ≤ ltr c), _ := fun c h c0 c1 hc => r45 f s c h c0 c1 hc
  simp only [Frm.enc, Sta.enc, Equ.enc, Mov.enc] at g mo mvd hbm
  rw [run_eq EE 20 _ _ Try.func20 (by decide +kernel) rfl (show 2 ≤ _ by decide)]
  dsimp only [Try.f20]
  unfold steps
  cases k1 : goodS f s
  · rw [k1] at g
    simp only [go_sem, g, Bool.not_false, Bool.false_eq_true, if_false, List.map_nil]
  rw [k1] at g
  rw [if_pos rfl]
  have F := goodS_F k1
  have hA := steps_le f s
  generalize hAA : (movesS s).flatMap (stepsM f s) = A at hA ⊢
  generalize hM : movesS s = M at mo hgm hAA
  have hMl : M.length ≤ 4 := by rw [← hM]; exact moves_le _
  simp only [go_sem, g, mo, Bool.not_true]
  refine iter_inv (fun p : Nat × List Stp => p.1 ≤ M.length ∧ p.2 ++ (M.drop p.1).flatMap (stepsM f s) = A) (fun p => { t := upd (upd (upd (upd (upd e0 7 (.int .i64 p.1)) 6 (.slc false 2 (M.map Mov.enc))) 5 (.slc true 5 (p.2.map Stp.enc))) 3 (.ptr 0 3 0)) 2 (.ptr 0 2 0), b := upd (upd n0 3 (some (Ob.box [.str s.left, .str s.right, .slc false 1 (s.maps.map I)]))) 2 (some (Ob.box [.str f.equ.left, .str f.equ.right, .slc false 1 (f.mon.maps.map IL), .slc false 1 (f.mon.letters.map I), .slc false 1 (f.mon.product.map IL), .slc false 1 (f.allowed.map IL)])), o := [], r := #[ResultVar.tmp 4], f := 20, n := 105 }) (fun p => some (.slc true 5 (A.map Stp.enc), [])) (fun p => M.length - p.1) ?_ (0, []) ⟨Nat.zero_le _, by rw [← hAA]; rfl⟩
  rintro ⟨i, out⟩ ⟨hi, hI⟩ ih
  dsimp only at hi hI ⊢
  by_cases h : i < M.length
  rotate_left
  · have k1 : ¬ (i : Int) < M.length := by omega
    rw [List.drop_eq_nil_of_le (by omega)] at hI
    have : out = A := by simpa using hI
    simp only [go_sem, k1, this]
  have k1 : (i : Int) < M.length := by omega
  have wi := wrap_nat (n := i) (by omega)
  rw [List.drop_eq_getElem_cons h, List.flatMap_cons] at hI
  have hget : ∀ dd : V, (M.map Mov.enc).getD i dd = (M[i]).enc := fun dd => getD_map h dd
  have gm := hgm _ (List.getElem_mem h)
  have ihn := fun o ho => ih (i + 1, o) ⟨h, ho⟩ (by show M.length - (i + 1) < M.length - i; omega)
  dsimp only at ihn
  clear ih
  generalize M[i] = m at hget hI gm
  simp only [Mov.enc] at hget
  have hv := isVar_iff gm.var
  have ix := r43 m.name (by omega) (by omega)
  have p0 : 0 ≤ m.name - 88 := by omega
  have hs3 := F.maps
  have p2 : m.name - 88 < (s.maps.length : Int) := by omega
  have gi := fun dd => get_I (l := s.maps) (i := (m.name - 88).toNat) (by omega) dd
  have eo : s.maps.getD (m.name - 88).toNat 0 = ownM s m := rfl
  rw [eo] at gi
  simp only [go_sem, k1, hget]
  rw [q_drs]
  rotate_left
  · kernel_rfl
  simp only [go_sem, k1, hget, ix, p0, p2, gi, toList_nil]
  rw [stepsM] at hI
  by_cases c0 : m.by_.size = 0
  · rw [if_pos c0] at hI
    by_cases c1 : ownM s m = 0
    · rw [if_pos c1] at hI
      have mv := mvd m 0 gm hs3
      have es := snocS out m (movedS s m 0)
      have hlen : out.length + 1 ≤ A.length := by rw [← hI]; simp
      have a1 : (out.length + 1) * 80 ≤ 140737488355328 := by omega
      simp only [go_sem, c0, c1]
      rw [q_drs]
      rotate_left
      · kernel_rfl
      simp only [go_sem, k1, hget, mv, a1, es, wi]
      exact ihn _ (by rw [← hI]; simp)
    · rw [if_neg c1] at hI
      have c1' : (ownM s m == 0) = false := by simpa using c1
      simp only [go_sem, c0, c1', wi]
      exact ihn _ (by rw [← hI]; simp)
  rw [if_neg c0] at hI
  have pb : (0 : Int) < m.by_.size := by omega
  obtain ⟨c, hc0, hc1, hcb, hcv⟩ := gm.by_.resolve_left c0
  have b0 : bt m.by_ 0 = c := by rw [hcb]; exact pair_at c m.name hc0 hc1
  have bm := hbm c F hc0 hc1 hcv
  have B := F.byte hcv
  have Rw := F.rowAt B.1 B.2
  have q2 : byteMap f s c < (f.mon.product.length : Int) := by have := F.prod; omega
  have gp := fun dd => get_IL (l := f.mon.product) (i := (byteMap f s c).toNat) (by omega) dd
  have q0 := B.1
  simp only [go_sem, c0]
  rw [q_drs]
  rotate_left
  · kernel_rfl
  simp only [go_sem, k1, hget, pb, b0, bm]
  have hhit : ∀ k : Nat, hitK f s m k = if ((f.mon.product.getD (byteMap f s c).toNat []).getD k 0 == ownM s m) = true then [⟨m, movedS s m k⟩] else [] := by
    intro k
    unfold hitK prodAt
    rw [b0]
    by_cases hh : (f.mon.product.getD (byteMap f s c).toNat []).getD k 0 = ownM s m
    · rw [if_pos hh, if_pos (by simpa using hh)]
    · rw [if_neg hh, if_neg (by simpa using hh)]
  generalize f.mon.product.getD (byteMap f s c).toNat [] = row at gp Rw hhit
  generalize byteMap f s c = gb at bm q0 q2 gp ⊢
  refine iter_inv (fun p : Nat × List Stp => p.1 ≤ f.mon.maps.length ∧ p.2 ++ (((List.range f.mon.maps.length).drop p.1).flatMap (hitK f s m) ++ (M.drop (i + 1)).flatMap (stepsM f s)) = A) (fun p => { t := upd (upd (upd (upd (upd (upd (upd (upd e0 10 (.int .i64 p.1)) 9 (.int .i64 gb)) 8 (.int .i64 (ownM s m))) 7 (.int .i64 i)) 6 (.slc false 2 (M.map Mov.enc))) 5 (.slc true 5 (p.2.map Stp.enc))) 3 (.ptr 0 3 0)) 2 (.ptr 0 2 0), b := upd (upd n0 3 (some (Ob.box [.str s.left, .str s.right, .slc false 1 (s.maps.map I)]))) 2 (some (Ob.box [.str f.equ.left, .str f.equ.right, .slc false 1 (f.mon.maps.map IL), .slc false 1 (f.mon.letters.map I), .slc false 1 (f.mon.product.map IL), .slc false 1 (f.allowed.map IL)])), o := [], r := #[ResultVar.tmp 4], f := 20, n := 105 }) (fun p => some (.slc true 5 (A.map Stp.enc), [])) (fun p => f.mon.maps.length - p.1) ?_ (0, out) ⟨Nat.zero_le _, by rw [← hI]; rfl⟩
  rintro ⟨j, out⟩ ⟨hj, hJ⟩ ih
  dsimp only at hj hJ ⊢
  by_cases h' : j < f.mon.maps.length
  rotate_left
  · have k2 : ¬ (j : Int) < f.mon.maps.length := by omega
    rw [List.drop_eq_nil_of_le (by simpa using (by omega : f.mon.maps.length ≤ j))] at hJ
    simp only [go_sem, k2, wi]
    exact ihn _ (by rw [← hJ]; simp)
  have k2 : (j : Int) < f.mon.maps.length := by omega
  have k3 : (j : Int) < row.length := by omega
  have wj := wrap_nat (n := j) (by omega)
  rw [range_drop h', List.flatMap_cons, hhit] at hJ
  have gr := fun dd => get_I (l := row) (i := j) (by omega) dd
  have ihj := fun o ho => ih (j + 1, o) ⟨h', ho⟩ (by show f.mon.maps.length - (j + 1) < f.mon.maps.length - j; omega)
  dsimp only at ihj
  clear ih
  cases cj : (row.getD j 0 == ownM s m)
  · rw [cj, if_neg (by decide)] at hJ
    simp only [go_sem, k2, k3, q0, q2, gp, gr, cj, wj]
    exact ihj _ (by rw [← hJ]; simp)
  rw [cj, if_pos rfl] at hJ
  have mv := mvd m j gm hs3
  have es := snocS out m (movedS s m j)
  have hlen : out.length + 1 ≤ A.length := by rw [← hJ]; simp
  have a1 : (out.length + 1) * 80 ≤ 140737488355328 := by omega
  simp only [go_sem, k2, k3, q0, q2, gp, gr, cj]
  rw [q_drs]
  rotate_left
  · kernel_rfl
  simp only [go_sem, k1, hget, mv, a1, es, wj]
  exact ihj _ (by rw [← hJ]; simp)
end Go.Ev
namespace Go.Ev
open Go Go.Proofs
set_option maxRecDepth 10000
set_option maxHeartbeats 4000000
set_option linter.unusedVariables false
set_option linter.unusedSimpArgs false

theorem r63 (l : List Int) (h : l.length = 3) : run EE 63 [.slc false 1 (l.map I)] [] = some (.uq 1 (l.map I), []) := by
  obtain ⟨a, b, c, rfl⟩ := three h
  rw [run_eq EE 63 _ _ Try.func63 (by decide +kernel) rfl (show 1 ≤ _ by decide)]
  dsimp only [Try.f63]
  simp only [go_sem]
theorem r62 (s : Sta) (m : Mov) (e : Equ) (k : Int) (v : Nat) (out : List Stp) (hv : v < 3) (hm : s.maps.length = 3) (hlen : out.length ≤ 1048576 * 16) (b : Nat → Option Ob) (a1 a2 a3 a4 a5 : Nat)
    (h1 : b a1 = some (.box [.str s.left, .str s.right, .slc false 1 (s.maps.map I)])) (h2 : b a2 = some (.box [.int .i64 v])) (h3 : b a3 = some (.box [.slc true 5 (out.map Stp.enc)])) (h4 : b a4 = some (.box [.int .u8 m.name, .str m.by_])) (h5 : b a5 = some (.box [.str e.left, .str e.right])) (n4 : ¬ a4 = a3) (n5 : ¬ a5 = a3) :
    run EE 62 [.int .i64 k, .ptr 0 a1 0, .ptr 0 a2 0, .ptr 0 a3 0, .ptr 0 a4 0, .ptr 0 a5 0] [b] = some (.tup [], [upd (upd b a3 (some (.box [.slc false 5 (out.map Stp.enc)]))) a3 (some (.box [.slc true 5 ((out ++ [Stp.mk m ⟨e.left, e.right, s.maps.set v k⟩]).map Stp.enc)]))]) := by
  have cl := r63 s.maps hm
  obtain ⟨sl, sr, maps⟩ := s
  dsimp only at *
  obtain ⟨a, b', c, rfl⟩ := three hm
  have hs := map_set_I [a, b', c] v k
  simp only [List.map_cons, List.map_nil, I] at hs cl h1
  have hln : (([a, b', c] : List Int).set v k).length = 3 := by simp
  have p0 : (v : Int) < 3 := by omega
  have a1 : (out.length + 1) * 80 ≤ 140737488355328 := by omega
  have es := snocS out m ⟨e.left, e.right, [a, b', c].set v k⟩
  rw [run_eq EE 62 _ _ Try.func62 (by decide +kernel) rfl (show 6 ≤ _ by decide)]
  dsimp only [Try.f62]
  simp only [go_sem, cl, h1, h2, h3, h4, h5, p0, hs, hln, hv, a1, n4, n5, es]
theorem r31 (f : Frm) (s : Sta) (h1 : f.mon.maps.length ≤ 1048576) (h2 : f.mon.letters.length ≤ 1048576) (h3 : f.mon.product.length ≤ 1048576) (h4 : ∀ r ∈ f.mon.product, r.length ≤ 1048576) (hm : s.maps.length ≤ 1048576) (hl : s.left.size ≤ 1048576) (hr : s.right.size ≤ 1048576) :
    run EE 31 [f.enc, s.enc] [] = some (.slc true 5 ((steps f s).map Stp.enc), []) := by
  have g := r27 f.mon h1 h2 h3 h4
  have sl := r59 s.left (by omega)
  have sr := r59 s.right (by omega)
  have mo := r60 ⟨s.left, s.right⟩ hl hr
  have em : moves (strip ⟨s.left, s.right⟩) = movesS s := rfl
  have hgm := moves_good (strip ⟨s.left, s.right⟩)
  rw [em] at mo hgm
  have cf := fun (b : Nat → Option Ob) (hb : b 5 = some (.box [.slc false 1 (f.mon.maps.map IL), .slc false 1 (f.mon.letters.map I), .slc false 1 (f.mon.product.map IL)])) => cf51_1 s.maps (by omega) (fun q => !(decide (0 ≤ q) && decide (q ≤ (f.mon.maps.length : Int) - 1))) 58 5 [b] (by simp) (fun x hx b0 b1 => r58 x f.mon.maps _ _ 5 _ (by simp) hb h1)
  simp only [any_not] at cf
  have fn : s.maps.all (fun q => decide (0 ≤ q) && decide (q ≤ (f.mon.maps.length : Int) - 1)) = nums f.mon.maps.length s.maps := rfl
  rw [fn] at cf
  simp only [Mon.enc, Equ.enc] at g mo
  rw [run_eq EE 31 _ _ Try.func31 (by decide +kernel) rfl (show 2 ≤ _ by decide)]
  dsimp only [Try.f31]
  unfold steps
  cases k0 : goodS f s
  · rw [if_neg (by decide)]
    unfold goodS at k0
    cases k1 : goodM f.mon
    · rw [k1] at g
      simp only [go_sem, g, Bool.not_false]
    rw [k1] at g k0
    cases k2 : ((s.maps.length : Int) == 3)
    · simp only [go_sem, g, bne, k2, Bool.not_false, Bool.not_true]
    cases k3 : nums f.mon.maps.length s.maps
    · rw [k3] at cf
      simp only [go_sem, g, bne, k2, Bool.not_false, Bool.not_true]
      rw [cf _ rfl]
      simp only [go_sem]
    rw [k3] at cf
    rw [k2, k3, Bool.true_and, Bool.true_and, Bool.true_and] at k0
    simp only [go_sem, g, bne, k2, Bool.not_false, Bool.not_true]
    rw [cf _ rfl]
    cases k4 : allB sideB s.left 0
    · rw [k4] at sl
      simp only [go_sem, sl, Bool.not_true, Bool.not_false]
    rw [k4] at sl k0
    rw [Bool.true_and] at k0
    rw [k0] at sr
    simp only [go_sem, sl, sr, Bool.not_true, Bool.not_false]
  rw [if_pos rfl]
  have F := goodS_F k0
  have hA := steps_le f s
  generalize hAA : (movesS s).flatMap (stepsM f s) = A at hA ⊢
  generalize hM : movesS s = M at mo hgm hAA
  have hMl : M.length ≤ 4 := by rw [← hM]; exact moves_le _
  unfold goodS at k0
  simp only [Bool.and_eq_true] at k0
  obtain ⟨k1, k2, k3, k4, k5⟩ := k0
  rw [k1] at g
  rw [k3] at cf
  rw [k4] at sl
  rw [k5] at sr
  simp only [go_sem, g, bne, k2, Bool.not_false, Bool.not_true]
  rw [cf _ rfl]
  simp only [go_sem, sl, sr, mo, Bool.not_true, Bool.not_false]
  refine iter_inv (fun p : Nat × List Stp => p.1 ≤ M.length ∧ p.2 ++ (M.drop p.1).flatMap (stepsM f s) = A) (fun p => { t := upd (upd (upd (upd (upd (upd (upd e0 56 (.int .i64 p.1)) 55 (.int .i64 M.length)) 54 (.slc true 2 (M.map Mov.enc))) 8 (.ptr 0 8 0)) 7 (.ptr 0 7 0)) 5 (.ptr 0 5 0)) 3 (.ptr 0 3 0), b := upd (upd (upd (upd (upd n0 8 (some (Ob.box [.str s.left, .str s.right]))) 7 (some (Ob.box [.slc true 5 (p.2.map Stp.enc)]))) 5 (some (Ob.box [.slc false 1 (f.mon.maps.map IL), .slc false 1 (f.mon.letters.map I), .slc false 1 (f.mon.product.map IL)]))) 3 (some (Ob.box [.str s.left, .str s.right, .slc false 1 (s.maps.map I)]))) 2 (some (Ob.box [.str f.equ.left, .str f.equ.right, .slc false 1 (f.mon.maps.map IL), .slc false 1 (f.mon.letters.map I), .slc false 1 (f.mon.product.map IL), .slc false 1 (f.allowed.map IL)])), o := [], r := #[ResultVar.tmp 4], f := 31, n := 123 }) (fun p => some (.slc true 5 (A.map Stp.enc), [])) (fun p => M.length - p.1) ?_ (0, []) ⟨Nat.zero_le _, by rw [← hAA]; rfl⟩
  rintro ⟨i, out⟩ ⟨hi, hI⟩ ih
  dsimp only at hi hI ⊢
  by_cases h : i < M.length
  rotate_left
  · have k1 : ¬ (i : Int) < M.length := by omega
    rw [List.drop_eq_nil_of_le (by omega)] at hI
    have : out = A := by simpa using hI
    simp only [go_sem, k1, this]
  have k1 : (i : Int) < M.length := by omega
  have wi := wrap_nat (n := i) (by omega)
  rw [List.drop_eq_getElem_cons h, List.flatMap_cons] at hI
  have hget : ∀ dd : V, (M.map Mov.enc).getD i dd = (M[i]).enc := fun dd => getD_map h dd
  have gm := hgm _ (List.getElem_mem h)
  have ihn := fun o ho => ih (i + 1, o) ⟨h, ho⟩ (by show M.length - (i + 1) < M.length - i; omega)
  dsimp only at ihn
  clear ih
  generalize M[i] = m at hget hI gm
  simp only [Mov.enc] at hget
  have hv := isVar_iff gm.var
  have hbs := gm.size
  have am := r61 ⟨s.left, s.right⟩ m hl hr (by omega)
  have em : strip ⟨repV s.left m.name m.by_, repV s.right m.name m.by_⟩ = movedE s m := rfl
  dsimp only at am
  rw [em] at am
  simp only [Equ.enc, Mov.enc] at am
  have hmv : ∀ k : Int, Sta.mk (movedE s m).left (movedE s m).right (s.maps.set (vIx m.name) k) = movedS s m k := fun k => rfl
  generalize movedE s m = e at am hmv
  have ix : idxB ⟨#[88, 89, 90]⟩ m.name = ((vIx m.name : Nat) : Int) := by
    rw [idx_XYZ _ (by omega) (by omega), if_pos gm.var]; unfold vIx; omega
  have hs3 := F.maps
  have pv : vIx m.name < 3 := by unfold vIx; omega
  have eo : s.maps.getD (vIx m.name) 0 = ownM s m := rfl
  generalize hvx : vIx m.name = v at ix pv eo hmv
  have p2 : (v : Int) < (s.maps.length : Int) := by omega
  have gi := fun dd => get_I (l := s.maps) (i := v) (by omega) dd
  rw [eo] at gi
  have ad := fun (o : List Stp) (k : Int) (ho : o.length ≤ 1048576 * 16) b => r62 s m e k v o pv hs3 ho b 3 11 7 10 12
  simp only [hmv] at ad
  rw [stepsM] at hI
  by_cases c0 : m.by_.size = 0
  · rw [if_pos c0] at hI
    by_cases c1 : ownM s m = 0
    · rw [if_pos c1] at hI
      have hlen : out.length + 1 ≤ A.length := by rw [← hI]; simp
      simp only [go_sem, k1, hget, ix, am, toList_nil, c0, p2, gi, c1]
      rw [ad out 0 (by omega) _ rfl rfl rfl rfl rfl (by decide) (by decide)]
      simp only [go_sem, wi]
      exact ihn _ (by rw [← hI]; simp)
    · rw [if_neg c1] at hI
      have c1' : (ownM s m == 0) = false := by simpa using c1
      simp only [go_sem, k1, hget, ix, am, toList_nil, c0, p2, gi, c1', wi]
      exact ihn _ (by rw [← hI]; simp)
  rw [if_neg c0] at hI
  have pb : (0 : Int) < m.by_.size := by omega
  obtain ⟨c, hc0, hc1, hcb, hcv⟩ := gm.by_.resolve_left c0
  have b0 : bt m.by_ 0 = c := by rw [hcb]; exact pair_at c m.name hc0 hc1
  have li := r64 c hc0 hc1
  have B := F.byte hcv
  have Rw := F.rowAt B.1 B.2
  have q2 : byteMap f s c < (f.mon.product.length : Int) := by have := F.prod; omega
  have gp := fun dd => get_IL (l := f.mon.product) (i := (byteMap f s c).toNat) (by omega) dd
  have q0 := B.1
  have hhit : ∀ k : Nat, hitK f s m k = if ((f.mon.product.getD (byteMap f s c).toNat []).getD k 0 == ownM s m) = true then [⟨m, movedS s m k⟩] else [] := by
    intro k
    unfold hitK prodAt
    rw [b0]
    by_cases hh : (f.mon.product.getD (byteMap f s c).toNat []).getD k 0 = ownM s m
    · rw [if_pos hh, if_pos (by simpa using hh)]
    · rw [if_neg hh, if_neg (by simpa using hh)]
  generalize hrow : f.mon.product.getD (byteMap f s c).toNat [] = row at gp Rw hhit
  have hbm : byteMap f s c = if isVar c = true then s.maps.getD (vIx c) 0 else f.mon.letters.getD (ltr c).toNat 0 := rfl
  clear hrow B
  generalize byteMap f s c = gb at hbm q0 q2 gp
  cases kv : isVar c
  case' false =>
    rw [kv, if_neg (by decide)] at hbm
    have p0 : 0 ≤ ltr c := hcv.resolve_left (by rw [kv]; decide)
    have p1 := ltr_lt c
    have hl3 := F.lets
    have p3 : ltr c < (f.mon.letters.length : Int) := by omega
    have gl := fun dd => get_I (l := f.mon.letters) (i := (ltr c).toNat) (by omega) dd
    rw [← hbm] at gl
    simp only [go_sem, k1, hget, ix, am, toList_nil, c0, pb, b0, li, ge_iff_le, p0, p3, gl]
  case' true =>
    rw [kv, if_pos rfl] at hbm
    have hv2 := isVar_iff kv
    have il := isVar_ltr kv
    rw [il] at li
    have ix2 : idxB ⟨#[88, 89, 90]⟩ c = ((vIx c : Nat) : Int) := by
      rw [idx_XYZ _ (by omega) (by omega), if_pos kv]; unfold vIx; omega
    have pv2 : vIx c < 3 := by unfold vIx; omega
    have p3 : (vIx c : Int) < (s.maps.length : Int) := by omega
    have gl := fun dd => get_I (l := s.maps) (i := vIx c) (by omega) dd
    rw [← hbm] at gl
    simp only [go_sem, k1, hget, ix, am, toList_nil, c0, pb, b0, li, ge_iff_le]
    rw [q_drs]
    case' h => kernel_rfl
    simp only [go_sem, pb, b0, ix2, p3, gl]
  all_goals
    refine iter_inv (fun p : Nat × List Stp => p.1 ≤ f.mon.maps.length ∧ p.2 ++ (((List.range f.mon.maps.length).drop p.1).flatMap (hitK f s m) ++ (M.drop (i + 1)).flatMap (stepsM f s)) = A) (fun p => { t := upd (upd (upd (upd (upd (upd (upd (upd (upd (upd (upd (upd e0 100 (.int .i64 p.1)) 99 (.int .i64 f.mon.maps.length)) 56 (.int .i64 i)) 55 (.int .i64 M.length)) 54 (.slc true 2 (M.map Mov.enc))) 14 (.int .i64 gb)) 13 (.fn 62 [.ptr 0 3 0, .ptr 0 11 0, .ptr 0 7 0, .ptr 0 10 0, .ptr 0 12 0])) 11 (.ptr 0 11 0)) 8 (.ptr 0 8 0)) 7 (.ptr 0 7 0)) 5 (.ptr 0 5 0)) 3 (.ptr 0 3 0), b := upd (upd (upd (upd (upd (upd (upd (upd n0 12 (some (Ob.box [.str e.left, .str e.right]))) 11 (some (Ob.box [.int .i64 v]))) 10 (some (Ob.box [.int .u8 m.name, .str m.by_]))) 8 (some (Ob.box [.str s.left, .str s.right]))) 7 (some (Ob.box [.slc true 5 (p.2.map Stp.enc)]))) 5 (some (Ob.box [.slc false 1 (f.mon.maps.map IL), .slc false 1 (f.mon.letters.map I), .slc false 1 (f.mon.product.map IL)]))) 3 (some (Ob.box [.str s.left, .str s.right, .slc false 1 (s.maps.map I)]))) 2 (some (Ob.box [.str f.equ.left, .str f.equ.right, .slc false 1 (f.mon.maps.map IL), .slc false 1 (f.mon.letters.map I), .slc false 1 (f.mon.product.map IL), .slc false 1 (f.allowed.map IL)])), o := [], r := #[ResultVar.tmp 4], f := 31, n := 123 }) (fun p => some (.slc true 5 (A.map Stp.enc), [])) (fun p => f.mon.maps.length - p.1) ?_ (0, out) ⟨Nat.zero_le _, by rw [← hI]; rfl⟩
    rintro ⟨j, out⟩ ⟨hj, hJ⟩ ih
    dsimp only at hj hJ ⊢
    by_cases h' : j < f.mon.maps.length
    rotate_left
    · have k2 : ¬ (j : Int) < f.mon.maps.length := by omega
      rw [List.drop_eq_nil_of_le (by simpa using (by omega : f.mon.maps.length ≤ j))] at hJ
      simp only [go_sem, k2, wi]
      exact ihn _ (by rw [← hJ]; simp)
    have k2 : (j : Int) < f.mon.maps.length := by omega
    have k3 : (j : Int) < row.length := by omega
    have wj := wrap_nat (n := j) (by omega)
    rw [range_drop h', List.flatMap_cons, hhit] at hJ
    have gr := fun dd => get_I (l := row) (i := j) (by omega) dd
    have ihj := fun o ho => ih (j + 1, o) ⟨h', ho⟩ (by show f.mon.maps.length - (j + 1) < f.mon.maps.length - j; omega)
    dsimp only at ihj
    clear ih
    simp only [go_sem, k2]
    rw [q_drs]
    rotate_left
    · kernel_rfl
    cases cj : (row.getD j 0 == ownM s m)
    · rw [cj, if_neg (by decide)] at hJ
      simp only [go_sem, k2, k3, q0, q2, gp, gr, p2, gi, cj, wj]
      exact ihj _ (by rw [← hJ]; simp)
    rw [cj, if_pos rfl] at hJ
    have hlen : out.length + 1 ≤ A.length := by rw [← hJ]; simp
    simp only [go_sem, k2, k3, q0, q2, gp, gr, p2, gi, cj]
    rw [ad out j (by omega) _ rfl rfl rfl rfl rfl (by decide) (by decide)]
    simp only [go_sem, wj]
    exact ihj _ (by rw [← hJ]; simp)
end Go.Ev
namespace Go.Ev
open Go Go.Proofs
set_option maxRecDepth 10000
set_option maxHeartbeats 4000000
set_option linter.unusedVariables false
set_option linter.unusedSimpArgs false

theorem len0 {α : Type} (l : List α) : decide (l.length ≤ 300) = !decide ((l.length : Int) > 300) := by
  by_cases h : l.length ≤ 300
  · rw [decide_eq_true h, decide_eq_false (by omega)]; rfl
  · rw [decide_eq_false h, decide_eq_true (by omega)]; rfl
theorem r6 (f : Frm) (l : List Sta) (hF : FrmOk f) (hl : l.length ≤ 1048576) (hS : ∀ x ∈ l, StaOk x) :
    run EE 6 [f.enc, .slc false 3 (l.map Sta.enc)] [] = some (.bool (closed f l), []) := by
  have st := r16 f hF.l hF.r hF.a hF.b
  have g := r17 f.mon hF.m hF.t hF.p hF.q
  have em := r18 f hF.m hF.t hF.p hF.q hF.a
  have hhs := fun (s : Sta) (h : s.maps.length ≤ 1048576) => r19 l s hl (fun x hx => (hS x hx).m) h
  have hhe : ∀ s, (l.any fun x => eqSta x s) = has l s := fun s => rfl
  simp only [hhe] at hhs
  have hst := fun (x : Sta) (hx : x ∈ l) => r20 f x hF.m hF.t hF.p hF.q (hS x hx).m (hS x hx).l (hS x hx).r
  have hso := fun (x : Sta) => r21 x
  simp only [Frm.enc, Mon.enc, Sta.enc] at st g em hhs hst hso
  rw [run_eq EE 6 _ _ Try.func6 (by decide +kernel) rfl (show 2 ≤ _ by decide)]
  dsimp only [Try.f6]
  unfold closed
  rw [len0]
  have hsm := starts_maps f
  have hsn := starts_le f
  cases k1 : goodM f.mon
  · rw [k1] at g
    simp only [go_sem, g, st, Bool.not_false, Bool.false_and]
  rw [k1] at g em
  rw [Bool.true_and] at em
  generalize starts f = S at st hsm hsn ⊢
  cases k2 : decide ((l.length : Int) > 300)
  rotate_left
  · simp only [go_sem, g, st, k2, Bool.not_true, Bool.not_false, Bool.true_and, Bool.false_and]
  cases k3 : ((S.length : Int) == 0)
  case' true =>
    cases k4 : (((f.allowed.length : Int) == 3) && noM f.allowed)
    case' false =>
      rw [k4] at em
      simp only [go_sem, g, st, em, k2, k3, Bool.not_true, Bool.not_false, Bool.true_and, Bool.false_and]
    case' true =>
      rw [k4] at em
      simp only [go_sem, g, st, em, k2, k3, Bool.not_true, Bool.not_false, Bool.true_and, Bool.or_true]
  case' false =>
    simp only [go_sem, g, st, em, k2, k3, Bool.not_true, Bool.not_false, Bool.true_and, Bool.true_or]
  all_goals
    refine iter_inv (fun i : Nat => i ≤ S.length) (fun i => { t := upd (upd (upd (upd e0 6 (.int .i64 i)) 5 (.slc false 3 (S.map Sta.enc))) 2 (.ptr 0 2 0)) 1 (.slc false 3 (l.map Sta.enc)), b := upd n0 2 (some (Ob.box [.str f.equ.left, .str f.equ.right, .slc false 1 (f.mon.maps.map IL), .slc false 1 (f.mon.letters.map I), .slc false 1 (f.mon.product.map IL), .slc false 1 (f.allowed.map IL)])), o := [], r := #[ResultVar.tmp 4], f := 6, n := 75 }) (fun i => some (.bool ((S.drop i).all (has l) && l.all (nodeOk f l)), [])) (fun i => S.length - i) ?_ 0 (Nat.zero_le _)
    intro i hi ih
    by_cases h : i < S.length
    · have k1 : (i : Int) < S.length := by omega
      have w := wrap_nat (n := i) (by omega)
      have hh := hhs S[i] (hsm _ (List.getElem_mem h))
      have hget : ∀ dd : V, (S.map Sta.enc).getD i dd = (S[i]).enc := fun dd => getD_map h dd
      rw [List.drop_eq_getElem_cons h, List.all_cons]
      have ihn := ih (i + 1) (by omega) (by omega)
      generalize S[i] = x at hh hget ⊢
      simp only [Sta.enc] at hget
      cases c : has l x
      · rw [c] at hh
        simp only [go_sem, k1, hget, hh, Bool.not_false, Bool.false_and]
      · rw [c] at hh
        simp only [go_sem, k1, w, hget, hh, Bool.not_true, Bool.true_and]
        exact ihn
    have k1 : ¬ (i : Int) < S.length := by omega
    rw [List.drop_eq_nil_of_le (by omega), List.all_nil, Bool.true_and]
    simp only [go_sem, k1]
    clear ih hi h k1
    refine iter_inv (fun i : Nat => i ≤ l.length) (fun i => { t := upd (upd (upd e0 7 (.int .i64 i)) 2 (.ptr 0 2 0)) 1 (.slc false 3 (l.map Sta.enc)), b := upd n0 2 (some (Ob.box [.str f.equ.left, .str f.equ.right, .slc false 1 (f.mon.maps.map IL), .slc false 1 (f.mon.letters.map I), .slc false 1 (f.mon.product.map IL), .slc false 1 (f.allowed.map IL)])), o := [], r := #[ResultVar.tmp 4], f := 6, n := 75 }) (fun i => some (.bool ((l.drop i).all (nodeOk f l)), [])) (fun i => l.length - i) ?_ 0 (Nat.zero_le _)
    intro i hi ih
    by_cases h : i < l.length
    rotate_left
    · have k1 : ¬ (i : Int) < l.length := by omega
      rw [List.drop_eq_nil_of_le (by omega), List.all_nil]
      simp only [go_sem, k1]
    have k1 : (i : Int) < l.length := by omega
    have w := wrap_nat (n := i) (by omega)
    have hmem := List.getElem_mem h
    have hs1 := hst l[i] hmem
    have hs2 := hso l[i]
    have hs3 := fun x (hx : x ∈ steps f l[i]) => hhs (Stp.to x) (by rw [steps_maps (f := f) (s := l[i]) x hx]; exact (hS _ hmem).m)
    have hs4 := steps_len f l[i]
    have hget : ∀ dd : V, (l.map Sta.enc).getD i dd = (l[i]).enc := fun dd => getD_map h dd
    rw [List.drop_eq_getElem_cons h, List.all_cons]
    have ihn := ih (i + 1) (by omega) (by omega)
    rw [nodeOk]
    generalize l[i] = x at hs1 hs2 hs3 hs4 hget hmem ⊢
    simp only [Sta.enc] at hget
    generalize steps f x = T at hs1 hs3 hs4 ⊢
    have hmm := hF.m
    simp only [go_sem, k1]
    rw [q_drs]
    rotate_left
    · kernel_rfl
    simp only [go_sem, k1, hget, hs1]
    refine iter_inv (fun j : Nat => j ≤ T.length) (fun j => { t := upd (upd (upd (upd (upd e0 9 (.int .i64 j)) 8 (.slc false 5 (T.map Stp.enc))) 7 (.int .i64 i)) 2 (.ptr 0 2 0)) 1 (.slc false 3 (l.map Sta.enc)), b := upd n0 2 (some (Ob.box [.str f.equ.left, .str f.equ.right, .slc false 1 (f.mon.maps.map IL), .slc false 1 (f.mon.letters.map I), .slc false 1 (f.mon.product.map IL), .slc false 1 (f.allowed.map IL)])), o := [], r := #[ResultVar.tmp 4], f := 6, n := 75 }) (fun j => some (.bool (((T.drop j).all (fun t => has l t.to) && !solved x) && (l.drop (i + 1)).all (nodeOk f l)), [])) (fun j => T.length - j) ?_ 0 (Nat.zero_le _)
    intro j hj ihj
    by_cases h' : j < T.length
    rotate_left
    · have k2 : ¬ (j : Int) < T.length := by omega
      rw [List.drop_eq_nil_of_le (by omega), List.all_nil, Bool.true_and]
      cases c : solved x
      · rw [c] at hs2
        simp only [go_sem, k1, k2, w, hget, hs2, Bool.not_false, Bool.true_and]
        exact ihn
      · rw [c] at hs2
        simp only [go_sem, k1, k2, w, hget, hs2, Bool.not_true, Bool.false_and]
    have k2 : (j : Int) < T.length := by omega
    have wj := wrap_nat (n := j) (by omega)
    have hh := hs3 T[j] (List.getElem_mem h')
    have hget' : ∀ dd : V, (T.map Stp.enc).getD j dd = (T[j]).enc := fun dd => getD_map h' dd
    rw [List.drop_eq_getElem_cons h', List.all_cons]
    have ihm := ihj (j + 1) (by omega) (by omega)
    generalize T[j] = y at hh hget' ⊢
    simp only [Stp.enc] at hget'
    cases c : has l y.to
    · rw [c] at hh
      simp only [go_sem, k2, hget', hh, Bool.not_false, Bool.false_and]
    · rw [c] at hh
      simp only [go_sem, k2, wj, hget', hh, Bool.not_true, Bool.true_and]
      exact ihm
theorem r9 (f : Frm) (l : List Sta) (hF : FrmOk f) (hl : l.length ≤ 1048576) (hS : ∀ x ∈ l, StaOk x) :
    run EE 9 [f.enc, .slc false 3 (l.map Sta.enc)] [] = some (.bool (closed f l), []) := by
  have st := r26 f hF.l hF.r hF.a hF.b
  have g := r27 f.mon hF.m hF.t hF.p hF.q
  have em := r28 f hF.a
  have hhs := fun (s : Sta) (h : s.maps.length ≤ 1048576) => r29 l s hl (fun x hx => (hS x hx).m) h
  have hhe : ∀ s, (l.any fun x => eqSta x s) = has l s := fun s => rfl
  simp only [hhe] at hhs
  have hst := fun (x : Sta) (hx : x ∈ l) => r31 f x hF.m hF.t hF.p hF.q (hS x hx).m (hS x hx).l (hS x hx).r
  have hso := fun (x : Sta) => r30 x
  simp only [Frm.enc, Mon.enc, Sta.enc] at st g em hhs hst hso
  rw [run_eq EE 9 _ _ Try.func9 (by decide +kernel) rfl (show 2 ≤ _ by decide)]
  dsimp only [Try.f9]
  unfold closed
  rw [len0]
  have hsm := starts_maps f
  have hsn := starts_le f
  cases k1 : goodM f.mon
  · rw [k1] at g
    simp only [go_sem, g, st, Bool.not_false, Bool.false_and]
  rw [k1] at g
  generalize starts f = S at st hsm hsn ⊢
  cases k2 : decide ((l.length : Int) > 300)
  rotate_left
  · simp only [go_sem, g, st, k2, Bool.not_true, Bool.not_false, Bool.true_and, Bool.false_and]
  cases k3 : ((S.length : Int) == 0)
  case' true =>
    cases k4 : (((f.allowed.length : Int) == 3) && noM f.allowed)
    case' false =>
      rw [k4] at em
      simp only [go_sem, g, st, em, k2, k3, Bool.not_true, Bool.not_false, Bool.true_and, Bool.false_and]
    case' true =>
      rw [k4] at em
      simp only [go_sem, g, st, em, k2, k3, Bool.not_true, Bool.not_false, Bool.true_and, Bool.or_true]
  case' false =>
    simp only [go_sem, g, st, em, k2, k3, Bool.not_true, Bool.not_false, Bool.true_and, Bool.true_or]
  all_goals
    refine iter_inv (fun i : Nat => i ≤ S.length) (fun i => { t := upd (upd (upd (upd (upd e0 35 (.int .i64 i)) 34 (.int .i64 S.length)) 33 (.slc false 3 (S.map Sta.enc))) 2 (.ptr 0 2 0)) 1 (.slc false 3 (l.map Sta.enc)), b := upd n0 2 (some (Ob.box [.str f.equ.left, .str f.equ.right, .slc false 1 (f.mon.maps.map IL), .slc false 1 (f.mon.letters.map I), .slc false 1 (f.mon.product.map IL), .slc false 1 (f.allowed.map IL)])), o := [], r := #[ResultVar.tmp 4], f := 9, n := 67 }) (fun i => some (.bool ((S.drop i).all (has l) && l.all (nodeOk f l)), [])) (fun i => S.length - i) ?_ 0 (Nat.zero_le _)
    intro i hi ih
    by_cases h : i < S.length
    · have k1 : (i : Int) < S.length := by omega
      have w := wrap_nat (n := i) (by omega)
      have hh := hhs S[i] (hsm _ (List.getElem_mem h))
      have hget : ∀ dd : V, (S.map Sta.enc).getD i dd = (S[i]).enc := fun dd => getD_map h dd
      rw [List.drop_eq_getElem_cons h, List.all_cons]
      have ihn := ih (i + 1) (by omega) (by omega)
      generalize S[i] = x at hh hget ⊢
      simp only [Sta.enc] at hget
      cases c : has l x
      · rw [c] at hh
        simp only [go_sem, k1, hget, hh, Bool.not_false, Bool.false_and]
      · rw [c] at hh
        simp only [go_sem, k1, w, hget, hh, Bool.not_true, Bool.true_and]
        exact ihn
    have k1 : ¬ (i : Int) < S.length := by omega
    rw [List.drop_eq_nil_of_le (by omega), List.all_nil, Bool.true_and]
    simp only [go_sem, k1]
    clear ih hi h k1
    refine iter_inv (fun i : Nat => i ≤ l.length) (fun i => { t := upd (upd (upd (upd (upd e0 46 (.int .i64 i)) 45 (.int .i64 l.length)) 44 (.slc false 3 (l.map Sta.enc))) 2 (.ptr 0 2 0)) 1 (.slc false 3 (l.map Sta.enc)), b := upd n0 2 (some (Ob.box [.str f.equ.left, .str f.equ.right, .slc false 1 (f.mon.maps.map IL), .slc false 1 (f.mon.letters.map I), .slc false 1 (f.mon.product.map IL), .slc false 1 (f.allowed.map IL)])), o := [], r := #[ResultVar.tmp 4], f := 9, n := 67 }) (fun i => some (.bool ((l.drop i).all (nodeOk f l)), [])) (fun i => l.length - i) ?_ 0 (Nat.zero_le _)
    intro i hi ih
    by_cases h : i < l.length
    rotate_left
    · have k1 : ¬ (i : Int) < l.length := by omega
      rw [List.drop_eq_nil_of_le (by omega), List.all_nil]
      simp only [go_sem, k1]
    have k1 : (i : Int) < l.length := by omega
    have w := wrap_nat (n := i) (by omega)
    have hmem := List.getElem_mem h
    have hs1 := hst l[i] hmem
    have hs2 := hso l[i]
    have hs3 := fun x (hx : x ∈ steps f l[i]) => hhs (Stp.to x) (by rw [steps_maps (f := f) (s := l[i]) x hx]; exact (hS _ hmem).m)
    have hs4 := steps_len f l[i]
    have hget : ∀ dd : V, (l.map Sta.enc).getD i dd = (l[i]).enc := fun dd => getD_map h dd
    rw [List.drop_eq_getElem_cons h, List.all_cons]
    have ihn := ih (i + 1) (by omega) (by omega)
    rw [nodeOk]
    generalize l[i] = x at hs1 hs2 hs3 hs4 hget hmem ⊢
    simp only [Sta.enc] at hget
    generalize steps f x = T at hs1 hs3 hs4 ⊢
    have hmm := hF.m
    cases c : solved x
    rotate_left
    · rw [c] at hs2
      simp only [go_sem, k1, hget, hs2, Bool.not_true, Bool.and_false, Bool.false_and]
    rw [c] at hs2
    simp only [go_sem, k1, hget, hs1, hs2, Bool.not_false]
    refine iter_inv (fun j : Nat => j ≤ T.length) (fun j => { t := upd (upd (upd (upd (upd (upd (upd (upd e0 56 (.int .i64 j)) 55 (.int .i64 T.length)) 54 (.slc true 5 (T.map Stp.enc))) 46 (.int .i64 i)) 45 (.int .i64 l.length)) 44 (.slc false 3 (l.map Sta.enc))) 2 (.ptr 0 2 0)) 1 (.slc false 3 (l.map Sta.enc)), b := upd (upd n0 9 (some (Ob.box [.str x.left, .str x.right, .slc false 1 (x.maps.map I)]))) 2 (some (Ob.box [.str f.equ.left, .str f.equ.right, .slc false 1 (f.mon.maps.map IL), .slc false 1 (f.mon.letters.map I), .slc false 1 (f.mon.product.map IL), .slc false 1 (f.allowed.map IL)])), o := [], r := #[ResultVar.tmp 4], f := 9, n := 67 }) (fun j => some (.bool ((T.drop j).all (fun t => has l t.to) && (l.drop (i + 1)).all (nodeOk f l)), [])) (fun j => T.length - j) ?_ 0 (Nat.zero_le _)
    intro j hj ihj
    by_cases h' : j < T.length
    rotate_left
    · have k2 : ¬ (j : Int) < T.length := by omega
      rw [List.drop_eq_nil_of_le (by omega), List.all_nil, Bool.true_and]
      simp only [go_sem, k2, w]
      exact ihn
    have k2 : (j : Int) < T.length := by omega
    have wj := wrap_nat (n := j) (by omega)
    have hh := hs3 T[j] (List.getElem_mem h')
    have hget' : ∀ dd : V, (T.map Stp.enc).getD j dd = (T[j]).enc := fun dd => getD_map h' dd
    rw [List.drop_eq_getElem_cons h', List.all_cons]
    have ihm := ihj (j + 1) (by omega) (by omega)
    generalize T[j] = y at hh hget' ⊢
    simp only [Stp.enc] at hget'
    cases c : has l y.to
    · rw [c] at hh
      simp only [go_sem, k2, hget', hh, Bool.not_false, Bool.false_and]
    · rw [c] at hh
      simp only [go_sem, k2, wj, hget', hh, Bool.not_true, Bool.true_and]
      exact ihm
end Go.Ev
namespace Go.Ev
open Go Go.Proofs
set_option maxRecDepth 10000
set_option linter.unusedVariables false
set_option linter.unusedSimpArgs false
theorem r36 (l : List Int) (hl : l.length ≤ 9223372036854775807) (left : Int) (h0 : 0 ≤ left) (h1 : left ≤ 1048576) : run EE 36 [.slc false 1 (l.map I), .int .i64 left] [] = some (.int .i64 (szR (.slc false 1 (l.map I)) left), []) := by
  rw [run_eq EE 36 _ _ Try.func36 (by decide +kernel) rfl (show 2 ≤ _ by decide)]
  dsimp only [Try.f36]
  have w := wrap_in (n := left - (l.length : Int)) (by omega) (by omega)
  simp only [go_sem, w, szR, szT, szL_I]
  refine condL_dec (fun c1 => ?_) (fun c1 => ?_)
  · simp only [go_sem]
    rw [leftOf_neg (by omega)]
  · simp only [go_sem]
    rw [leftOf_pos (by omega)]
    rfl

theorem r14 (l : List (List Int)) (hl : l.length ≤ 9223372036854775807) (hc : ∀ x ∈ l, ∀ left : Int, 0 ≤ left → left ≤ 1048576 → run EE 36 [(IL x), .int .i64 left] [] = some (.int .i64 (szR (IL x) left), [])) (left : Int) (h0 : 0 ≤ left) (h1 : left ≤ 1048576) : run EE 14 [.slc false 1 (l.map IL), .int .i64 left] [] = some (.int .i64 (szR (.slc false 1 (l.map IL)) left), []) := by
  rw [run_eq EE 14 _ _ Try.func14 (by decide +kernel) rfl (show 2 ≤ _ by decide)]
  dsimp only [Try.f14]
  have w := wrap_in (n := left - (l.length : Int)) (by omega) (by omega)
  simp only [go_sem, w]
  have e : szR (.slc false 1 (l.map IL)) left = leftOf (l.length + szL (l.map IL)) left := by simp only [szR, szT, List.length_map]
  rw [e]
  refine condL_dec (fun c => ?_) (fun c => ?_)
  · simp only [go_sem]
    rw [leftOf_neg (by omega)]
  simp only [go_sem]
  refine (iter_inv (fun x : Nat × Int => x.1 ≤ l.length ∧ 0 ≤ x.2 ∧ x.2 ≤ 1048576) (fun x => { t := upd (upd (upd (e0) 5 (.int .i64 x.1)) 1 (.int .i64 x.2)) 0 (.slc false 1 (l.map IL)), b := n0, o := [], r := #[ResultVar.tmp 4], f := 14, n := 27 }) (fun x => some (.int .i64 (szRL ((l.drop x.1).map IL) x.2), [])) (fun x => l.length - x.1) ?_ (0, left - (l.length : Int)) ⟨Nat.zero_le _, by show 0 ≤ left - (l.length : Int); omega, by show left - (l.length : Int) ≤ 1048576; omega⟩).trans ?_
  · rintro ⟨i, left⟩ ⟨hi, a0, a1⟩ ih
    dsimp only at hi a0 a1 ⊢
    by_cases h : i < l.length
    · have k1 : (i : Int) < l.length := by omega
      have w := wrap_nat (n := i) (by omega)
      have hx := hc l[i] (List.getElem_mem h) left a0 a1
      rw [List.drop_eq_getElem_cons h, List.map_cons, szRL_cons]
      have hle : szR (IL l[i]) left ≤ left ∨ szR (IL l[i]) left = -1 := by unfold szR leftOf; split <;> omega
      generalize szR (IL l[i]) left = r at hx hle ⊢
      simp only [Rx.enc_eq, Vals.enc, Mor.enc, Sta.enc, Con.enc, Line.enc, Ans.enc, Prob.enc, Prog.enc, Ses.enc, Equ.enc, Mon.enc, Frm.enc, Mov.enc, Stp.enc, Dfa.enc, IL, I, B] at hx
      simp only [go_sem, k1, w, getD_map h, hx]
      refine condL_dec (fun c => ?_) (fun c => ?_)
      · simp only [go_sem]
        rw [if_pos c]
      · simp only [go_sem, w]
        rw [if_neg c]
        exact ih (i + 1, r) ⟨by show i + 1 ≤ l.length; omega, by show 0 ≤ r; omega, by show r ≤ 1048576; omega⟩ (by show l.length - (i + 1) < l.length - i; omega)
    · have k1 : ¬ (i : Int) < l.length := by omega
      simp only [go_sem, k1]
      rw [List.drop_eq_nil_of_le (by omega)]
      show _ = some (V.int .i64 (leftOf 0 left), [])
      rw [leftOf_pos (by omega)]
      simp
  · show some (V.int .i64 (leftOf (szL (l.map IL)) (left - (l.length : Int))), []) = _
    by_cases h : (szL (l.map IL) : Int) ≤ left - l.length
    · rw [leftOf_pos h, leftOf_pos (by omega)]
      refine congrArg some (congrArg (·, []) (congrArg (V.int .i64) ?_))
      omega
    · rw [leftOf_neg h, leftOf_neg (by omega)]

theorem r12 (x : Equ) (ho : okV x.enc) (left : Int) (h0 : 0 ≤ left) (h1 : left ≤ 1048576) : run EE 12 [x.enc, .int .i64 left] [] = some (.int .i64 (szR x.enc left), []) := by
  have ho' := ho
  simp only [Rx.enc_eq, Vals.enc, Mor.enc, Sta.enc, Con.enc, Line.enc, Ans.enc, Prob.enc, Prog.enc, Ses.enc, Equ.enc, Mon.enc, Frm.enc, Mov.enc, Stp.enc, Dfa.enc, IL, I, B, okV, okL, and_true, true_and, List.length_map] at ho'
  rw [run_eq EE 12 _ _ Try.func12 (by decide +kernel) rfl (show 2 ≤ _ by decide)]
  dsimp only [Try.f12]
  have e : szR x.enc left = leftOf (szT x.enc) left := rfl
  rw [e]
  simp only [Rx.enc_eq, Vals.enc, Mor.enc, Sta.enc, Con.enc, Line.enc, Ans.enc, Prob.enc, Prog.enc, Ses.enc, Equ.enc, Mon.enc, Frm.enc, Mov.enc, Stp.enc, Dfa.enc, IL, I, B, szT, szL, List.length_map]
  have w1 := wrap_in (n := left - ((x.left).size : Int)) (by omega) (by omega)
  simp only [go_sem, w1]
  refine condL_dec (fun c1 => ?_) (fun c1 => ?_)
  · simp only [go_sem]
    rw [leftOf_neg (by omega)]
  have w2 := wrap_in (n := left - ((x.left).size : Int) - ((x.right).size : Int)) (by omega) (by omega)
  simp only [go_sem, w2]
  refine condL_dec (fun c2 => ?_) (fun c2 => ?_)
  · simp only [go_sem]
    rw [leftOf_neg (by omega)]
  simp only [go_sem]
  rw [leftOf_pos (by omega)]
  refine congrArg some (congrArg (·, []) (congrArg (V.int .i64) ?_))
  omega

theorem r13 (x : Mon) (ho : okV x.enc) (left : Int) (h0 : 0 ≤ left) (h1 : left ≤ 1048576) : run EE 13 [x.enc, .int .i64 left] [] = some (.int .i64 (szR x.enc left), []) := by
  have ho' := ho
  simp only [Rx.enc_eq, Vals.enc, Mor.enc, Sta.enc, Con.enc, Line.enc, Ans.enc, Prob.enc, Prog.enc, Ses.enc, Equ.enc, Mon.enc, Frm.enc, Mov.enc, Stp.enc, Dfa.enc, IL, I, B, okV, okL, and_true, true_and, List.length_map] at ho'
  rw [run_eq EE 13 _ _ Try.func13 (by decide +kernel) rfl (show 2 ≤ _ by decide)]
  dsimp only [Try.f13]
  have e : szR x.enc left = leftOf (szT x.enc) left := rfl
  rw [e]
  simp only [Rx.enc_eq, Vals.enc, Mor.enc, Sta.enc, Con.enc, Line.enc, Ans.enc, Prob.enc, Prog.enc, Ses.enc, Equ.enc, Mon.enc, Frm.enc, Mov.enc, Stp.enc, Dfa.enc, IL, I, B, szT, szL, List.length_map]
  have w1 := r14 x.maps (by simp only [Rx.enc_eq, Vals.enc, Mor.enc, Sta.enc, Con.enc, Line.enc, Ans.enc, Prob.enc, Prog.enc, Ses.enc, Equ.enc, Mon.enc, Frm.enc, Mov.enc, Stp.enc, Dfa.enc, IL, I, B, okV, okL, and_true, true_and, List.length_map] at ho; omega) (fun z hz left a b => r36 z (by have := okL_map (f := IL) (by simp only [Rx.enc_eq, Vals.enc, Mor.enc, Sta.enc, Con.enc, Line.enc, Ans.enc, Prob.enc, Prog.enc, Ses.enc, Equ.enc, Mon.enc, Frm.enc, Mov.enc, Stp.enc, Dfa.enc, okV, okL, and_true, true_and, List.length_map] at ho; simp only [ho]) hz; simp only [IL, okV, List.length_map] at this; exact this.1) left a b) (left) (by omega) (by omega)
  unfold szR at w1
  generalize hn1 : szT (.slc false 1 (x.maps.map IL)) = n1 at w1
  simp only [Rx.enc_eq, Vals.enc, Mor.enc, Sta.enc, Con.enc, Line.enc, Ans.enc, Prob.enc, Prog.enc, Ses.enc, Equ.enc, Mon.enc, Frm.enc, Mov.enc, Stp.enc, Dfa.enc, IL, I, B, szT, szL, List.length_map] at w1 hn1
  simp only [go_sem, w1]
  refine condL_dec (fun c1 => ?_) (fun c1 => ?_)
  · have := leftOf_lt (by omega) c1
    simp only [go_sem]
    rw [leftOf_neg (by omega)]
  obtain ⟨e1, b1⟩ := leftOf_ge c1
  have w2 := r36 x.letters (by simp only [Rx.enc_eq, Vals.enc, Mor.enc, Sta.enc, Con.enc, Line.enc, Ans.enc, Prob.enc, Prog.enc, Ses.enc, Equ.enc, Mon.enc, Frm.enc, Mov.enc, Stp.enc, Dfa.enc, IL, I, B, okV, okL, and_true, true_and, List.length_map] at ho; omega) (left - (n1 : Int)) (by omega) (by omega)
  unfold szR at w2
  generalize hn2 : szT (.slc false 1 (x.letters.map I)) = n2 at w2
  simp only [Rx.enc_eq, Vals.enc, Mor.enc, Sta.enc, Con.enc, Line.enc, Ans.enc, Prob.enc, Prog.enc, Ses.enc, Equ.enc, Mon.enc, Frm.enc, Mov.enc, Stp.enc, Dfa.enc, IL, I, B, szT, szL, List.length_map] at w2 hn2
  simp only [go_sem, w2, e1]
  refine condL_dec (fun c2 => ?_) (fun c2 => ?_)
  · have := leftOf_lt (by omega) c2
    simp only [go_sem, e1]
    rw [leftOf_neg (by omega)]
  obtain ⟨e2, b2⟩ := leftOf_ge c2
  have w3 := r14 x.product (by simp only [Rx.enc_eq, Vals.enc, Mor.enc, Sta.enc, Con.enc, Line.enc, Ans.enc, Prob.enc, Prog.enc, Ses.enc, Equ.enc, Mon.enc, Frm.enc, Mov.enc, Stp.enc, Dfa.enc, IL, I, B, okV, okL, and_true, true_and, List.length_map] at ho; omega) (fun z hz left a b => r36 z (by have := okL_map (f := IL) (by simp only [Rx.enc_eq, Vals.enc, Mor.enc, Sta.enc, Con.enc, Line.enc, Ans.enc, Prob.enc, Prog.enc, Ses.enc, Equ.enc, Mon.enc, Frm.enc, Mov.enc, Stp.enc, Dfa.enc, okV, okL, and_true, true_and, List.length_map] at ho; simp only [ho]) hz; simp only [IL, okV, List.length_map] at this; exact this.1) left a b) (left - (n1 : Int) - (n2 : Int)) (by omega) (by omega)
  unfold szR at w3
  generalize hn3 : szT (.slc false 1 (x.product.map IL)) = n3 at w3
  simp only [Rx.enc_eq, Vals.enc, Mor.enc, Sta.enc, Con.enc, Line.enc, Ans.enc, Prob.enc, Prog.enc, Ses.enc, Equ.enc, Mon.enc, Frm.enc, Mov.enc, Stp.enc, Dfa.enc, IL, I, B, szT, szL, List.length_map] at w3 hn3
  simp only [go_sem, w3, e1, e2]
  refine condL_dec (fun c3 => ?_) (fun c3 => ?_)
  · have := leftOf_lt (by omega) c3
    simp only [go_sem, e1, e2]
    rw [leftOf_neg (by omega)]
  obtain ⟨e3, b3⟩ := leftOf_ge c3
  simp only [go_sem, e1, e2, e3]
  rw [leftOf_pos (by omega)]
  refine congrArg some (congrArg (·, []) (congrArg (V.int .i64) ?_))
  omega

theorem r4 (x : Frm) (ho : okV x.enc) (left : Int) (h0 : 0 ≤ left) (h1 : left ≤ 1048576) : run EE 4 [x.enc, .int .i64 left] [] = some (.int .i64 (szR x.enc left), []) := by
  have ho' := ho
  simp only [Rx.enc_eq, Vals.enc, Mor.enc, Sta.enc, Con.enc, Line.enc, Ans.enc, Prob.enc, Prog.enc, Ses.enc, Equ.enc, Mon.enc, Frm.enc, Mov.enc, Stp.enc, Dfa.enc, IL, I, B, okV, okL, and_true, true_and, List.length_map] at ho'
  rw [run_eq EE 4 _ _ Try.func4 (by decide +kernel) rfl (show 2 ≤ _ by decide)]
  dsimp only [Try.f4]
  have e : szR x.enc left = leftOf (szT x.enc) left := rfl
  rw [e]
  simp only [Rx.enc_eq, Vals.enc, Mor.enc, Sta.enc, Con.enc, Line.enc, Ans.enc, Prob.enc, Prog.enc, Ses.enc, Equ.enc, Mon.enc, Frm.enc, Mov.enc, Stp.enc, Dfa.enc, IL, I, B, szT, szL, List.length_map]
  have w1 := r12 x.equ (by simp only [Rx.enc_eq, Vals.enc, Mor.enc, Sta.enc, Con.enc, Line.enc, Ans.enc, Prob.enc, Prog.enc, Ses.enc, Equ.enc, Mon.enc, Frm.enc, Mov.enc, Stp.enc, Dfa.enc, IL, I, B, okV, okL, and_true, true_and, List.length_map] at ho ⊢; simp only [ho, and_self]) (left) (by omega) (by omega)
  unfold szR at w1
  generalize hn1 : szT (x.equ.enc) = n1 at w1
  simp only [Rx.enc_eq, Vals.enc, Mor.enc, Sta.enc, Con.enc, Line.enc, Ans.enc, Prob.enc, Prog.enc, Ses.enc, Equ.enc, Mon.enc, Frm.enc, Mov.enc, Stp.enc, Dfa.enc, IL, I, B, szT, szL, List.length_map] at w1 hn1
  simp only [go_sem, w1]
  refine condL_dec (fun c1 => ?_) (fun c1 => ?_)
  · have := leftOf_lt (by omega) c1
    simp only [go_sem]
    rw [leftOf_neg (by omega)]
  obtain ⟨e1, b1⟩ := leftOf_ge c1
  have w2 := r13 x.mon (by simp only [Rx.enc_eq, Vals.enc, Mor.enc, Sta.enc, Con.enc, Line.enc, Ans.enc, Prob.enc, Prog.enc, Ses.enc, Equ.enc, Mon.enc, Frm.enc, Mov.enc, Stp.enc, Dfa.enc, IL, I, B, okV, okL, and_true, true_and, List.length_map] at ho ⊢; simp only [ho, and_self]) (left - (n1 : Int)) (by omega) (by omega)
  unfold szR at w2
  generalize hn2 : szT (x.mon.enc) = n2 at w2
  simp only [Rx.enc_eq, Vals.enc, Mor.enc, Sta.enc, Con.enc, Line.enc, Ans.enc, Prob.enc, Prog.enc, Ses.enc, Equ.enc, Mon.enc, Frm.enc, Mov.enc, Stp.enc, Dfa.enc, IL, I, B, szT, szL, List.length_map] at w2 hn2
  simp only [go_sem, w2, e1]
  refine condL_dec (fun c2 => ?_) (fun c2 => ?_)
  · have := leftOf_lt (by omega) c2
    simp only [go_sem, e1]
    rw [leftOf_neg (by omega)]
  obtain ⟨e2, b2⟩ := leftOf_ge c2
  have w3 := r14 x.allowed (by simp only [Rx.enc_eq, Vals.enc, Mor.enc, Sta.enc, Con.enc, Line.enc, Ans.enc, Prob.enc, Prog.enc, Ses.enc, Equ.enc, Mon.enc, Frm.enc, Mov.enc, Stp.enc, Dfa.enc, IL, I, B, okV, okL, and_true, true_and, List.length_map] at ho; omega) (fun z hz left a b => r36 z (by have := okL_map (f := IL) (by simp only [Rx.enc_eq, Vals.enc, Mor.enc, Sta.enc, Con.enc, Line.enc, Ans.enc, Prob.enc, Prog.enc, Ses.enc, Equ.enc, Mon.enc, Frm.enc, Mov.enc, Stp.enc, Dfa.enc, okV, okL, and_true, true_and, List.length_map] at ho; simp only [ho]) hz; simp only [IL, okV, List.length_map] at this; exact this.1) left a b) (left - (n1 : Int) - (n2 : Int)) (by omega) (by omega)
  unfold szR at w3
  generalize hn3 : szT (.slc false 1 (x.allowed.map IL)) = n3 at w3
  simp only [Rx.enc_eq, Vals.enc, Mor.enc, Sta.enc, Con.enc, Line.enc, Ans.enc, Prob.enc, Prog.enc, Ses.enc, Equ.enc, Mon.enc, Frm.enc, Mov.enc, Stp.enc, Dfa.enc, IL, I, B, szT, szL, List.length_map] at w3 hn3
  simp only [go_sem, w3, e1, e2]
  refine condL_dec (fun c3 => ?_) (fun c3 => ?_)
  · have := leftOf_lt (by omega) c3
    simp only [go_sem, e1, e2]
    rw [leftOf_neg (by omega)]
  obtain ⟨e3, b3⟩ := leftOf_ge c3
  simp only [go_sem, e1, e2, e3]
  rw [leftOf_pos (by omega)]
  refine congrArg some (congrArg (·, []) (congrArg (V.int .i64) ?_))
  omega

theorem r15 (x : Sta) (ho : okV x.enc) (left : Int) (h0 : 0 ≤ left) (h1 : left ≤ 1048576) : run EE 15 [x.enc, .int .i64 left] [] = some (.int .i64 (szR x.enc left), []) := by
  have ho' := ho
  simp only [Rx.enc_eq, Vals.enc, Mor.enc, Sta.enc, Con.enc, Line.enc, Ans.enc, Prob.enc, Prog.enc, Ses.enc, Equ.enc, Mon.enc, Frm.enc, Mov.enc, Stp.enc, Dfa.enc, IL, I, B, okV, okL, and_true, true_and, List.length_map] at ho'
  rw [run_eq EE 15 _ _ Try.func15 (by decide +kernel) rfl (show 2 ≤ _ by decide)]
  dsimp only [Try.f15]
  have e : szR x.enc left = leftOf (szT x.enc) left := rfl
  rw [e]
  simp only [Rx.enc_eq, Vals.enc, Mor.enc, Sta.enc, Con.enc, Line.enc, Ans.enc, Prob.enc, Prog.enc, Ses.enc, Equ.enc, Mon.enc, Frm.enc, Mov.enc, Stp.enc, Dfa.enc, IL, I, B, szT, szL, List.length_map]
  have w1 := wrap_in (n := left - ((x.left).size : Int)) (by omega) (by omega)
  simp only [go_sem, w1]
  refine condL_dec (fun c1 => ?_) (fun c1 => ?_)
  · simp only [go_sem]
    rw [leftOf_neg (by omega)]
  have w2 := wrap_in (n := left - ((x.left).size : Int) - ((x.right).size : Int)) (by omega) (by omega)
  simp only [go_sem, w2]
  refine condL_dec (fun c2 => ?_) (fun c2 => ?_)
  · simp only [go_sem]
    rw [leftOf_neg (by omega)]
  have w3 := r36 x.maps (by simp only [Rx.enc_eq, Vals.enc, Mor.enc, Sta.enc, Con.enc, Line.enc, Ans.enc, Prob.enc, Prog.enc, Ses.enc, Equ.enc, Mon.enc, Frm.enc, Mov.enc, Stp.enc, Dfa.enc, IL, I, B, okV, okL, and_true, true_and, List.length_map] at ho; omega) (left - ((x.left).size : Int) - ((x.right).size : Int)) (by omega) (by omega)
  unfold szR at w3
  generalize hn3 : szT (.slc false 1 (x.maps.map I)) = n3 at w3
  simp only [Rx.enc_eq, Vals.enc, Mor.enc, Sta.enc, Con.enc, Line.enc, Ans.enc, Prob.enc, Prog.enc, Ses.enc, Equ.enc, Mon.enc, Frm.enc, Mov.enc, Stp.enc, Dfa.enc, IL, I, B, szT, szL, List.length_map] at w3 hn3
  simp only [go_sem, w3]
  refine condL_dec (fun c3 => ?_) (fun c3 => ?_)
  · have := leftOf_lt (by omega) c3
    simp only [go_sem]
    rw [leftOf_neg (by omega)]
  obtain ⟨e3, b3⟩ := leftOf_ge c3
  simp only [go_sem, e3]
  rw [leftOf_pos (by omega)]
  refine congrArg some (congrArg (·, []) (congrArg (V.int .i64) ?_))
  omega

theorem r5 (l : List Sta) (hl : l.length ≤ 9223372036854775807) (hc : ∀ x ∈ l, ∀ left : Int, 0 ≤ left → left ≤ 1048576 → run EE 15 [(Sta.enc x), .int .i64 left] [] = some (.int .i64 (szR (Sta.enc x) left), [])) (left : Int) (h0 : 0 ≤ left) (h1 : left ≤ 1048576) : run EE 5 [.slc false 3 (l.map Sta.enc), .int .i64 left] [] = some (.int .i64 (szR (.slc false 3 (l.map Sta.enc)) left), []) := by
  rw [run_eq EE 5 _ _ Try.func5 (by decide +kernel) rfl (show 2 ≤ _ by decide)]
  dsimp only [Try.f5]
  have w := wrap_in (n := left - (l.length : Int)) (by omega) (by omega)
  simp only [go_sem, w]
  have e : szR (.slc false 3 (l.map Sta.enc)) left = leftOf (l.length + szL (l.map Sta.enc)) left := by simp only [szR, szT, List.length_map]
  rw [e]
  refine condL_dec (fun c => ?_) (fun c => ?_)
  · simp only [go_sem]
    rw [leftOf_neg (by omega)]
  simp only [go_sem]
  refine (iter_inv (fun x : Nat × Int => x.1 ≤ l.length ∧ 0 ≤ x.2 ∧ x.2 ≤ 1048576) (fun x => { t := upd (upd (upd (e0) 5 (.int .i64 x.1)) 1 (.int .i64 x.2)) 0 (.slc false 3 (l.map Sta.enc)), b := n0, o := [], r := #[ResultVar.tmp 4], f := 5, n := 27 }) (fun x => some (.int .i64 (szRL ((l.drop x.1).map Sta.enc) x.2), [])) (fun x => l.length - x.1) ?_ (0, left - (l.length : Int)) ⟨Nat.zero_le _, by show 0 ≤ left - (l.length : Int); omega, by show left - (l.length : Int) ≤ 1048576; omega⟩).trans ?_
  · rintro ⟨i, left⟩ ⟨hi, a0, a1⟩ ih
    dsimp only at hi a0 a1 ⊢
    by_cases h : i < l.length
    · have k1 : (i : Int) < l.length := by omega
      have w := wrap_nat (n := i) (by omega)
      have hx := hc l[i] (List.getElem_mem h) left a0 a1
      rw [List.drop_eq_getElem_cons h, List.map_cons, szRL_cons]
      have hle : szR (Sta.enc l[i]) left ≤ left ∨ szR (Sta.enc l[i]) left = -1 := by unfold szR leftOf; split <;> omega
      generalize szR (Sta.enc l[i]) left = r at hx hle ⊢
      simp only [Rx.enc_eq, Vals.enc, Mor.enc, Sta.enc, Con.enc, Line.enc, Ans.enc, Prob.enc, Prog.enc, Ses.enc, Equ.enc, Mon.enc, Frm.enc, Mov.enc, Stp.enc, Dfa.enc, IL, I, B] at hx
      simp only [go_sem, k1, w, getD_map h, hx]
      refine condL_dec (fun c => ?_) (fun c => ?_)
      · simp only [go_sem]
        rw [if_pos c]
      · simp only [go_sem, w]
        rw [if_neg c]
        exact ih (i + 1, r) ⟨by show i + 1 ≤ l.length; omega, by show 0 ≤ r; omega, by show r ≤ 1048576; omega⟩ (by show l.length - (i + 1) < l.length - i; omega)
    · have k1 : ¬ (i : Int) < l.length := by omega
      simp only [go_sem, k1]
      rw [List.drop_eq_nil_of_le (by omega)]
      show _ = some (V.int .i64 (leftOf 0 left), [])
      rw [leftOf_pos (by omega)]
      simp
  · show some (V.int .i64 (leftOf (szL (l.map Sta.enc)) (left - (l.length : Int))), []) = _
    by_cases h : (szL (l.map Sta.enc) : Int) ≤ left - l.length
    · rw [leftOf_pos h, leftOf_pos (by omega)]
      refine congrArg some (congrArg (·, []) (congrArg (V.int .i64) ?_))
      omega
    · rw [leftOf_neg h, leftOf_neg (by omega)]
end Go.Ev
namespace Go.Ev
open Go Go.Proofs
set_option maxRecDepth 10000
set_option linter.unusedVariables false
set_option linter.unusedSimpArgs false
theorem r46 (l : List Int) (hl : l.length ≤ 1048576) : run EE 46 [.slc false 1 (l.map I)] [] = some (.slc false 1 (l.map I), []) := by
  rw [run_eq EE 46 _ _ Try.func46 (by decide +kernel) rfl (show 1 ≤ _ by decide)]
  dsimp only [Try.f46]
  have h8 : (l.length : Int) * 8 ≤ 140737488355328 := by omega
  simp only [go_sem, h8]
  refine iter_inv (fun i : Nat => i ≤ l.length) (fun i => { t := upd (upd (upd (e0) 4 (.int .i64 i)) 3 (.aref 0 7 l.length)) 0 (.slc false 1 (l.map I)), b := upd (n0) 7 (some (Ob.arr false 1 (fill I l (.int .i64 0) i))), o := [], r := #[ResultVar.tmp 2], f := 46, n := 22 }) (fun _ => some (.slc false 1 (l.map I), [])) (fun i => l.length - i) ?_ 0 (Nat.zero_le _)
  intro i hi ih
  by_cases h : i < l.length
  · have h1 : (i : Int) < l.length := by omega
    have w := wrap_nat (n := i) (by omega)
    simp only [go_sem, h, h1, w, getD_map h, I, fill_len I l (.int .i64 0) hi]
    rw [fill_set I l (.int .i64 0) h (.int .i64 l[i]) rfl]
    exact ih (i + 1) (by omega) (by omega)
  · have h1 : ¬ (i : Int) < l.length := by omega
    obtain rfl : i = l.length := by omega
    simp only [go_sem, h1, fill_all]

theorem r24 (l : List (List Int)) (hl : l.length ≤ 1048576) (hc : ∀ x ∈ l, run EE 46 [(IL x)] [] = some ((IL x), [])) : run EE 24 [.slc false 1 (l.map IL)] [] = some (.slc false 1 (l.map IL), []) := by
  rw [run_eq EE 24 _ _ Try.func24 (by decide +kernel) rfl (show 1 ≤ _ by decide)]
  dsimp only [Try.f24]
  have h8 : (l.length : Int) * 24 ≤ 140737488355328 := by omega
  simp only [go_sem, h8]
  refine iter_inv (fun i : Nat => i ≤ l.length) (fun i => { t := upd (upd (upd (e0) 4 (.int .i64 i)) 3 (.aref 0 7 l.length)) 0 (.slc false 1 (l.map IL)), b := upd (n0) 7 (some (Ob.arr false 1 (fill IL l (dflt Try.prog 24) i))), o := [], r := #[ResultVar.tmp 2], f := 24, n := 23 }) (fun _ => some (.slc false 1 (l.map IL), [])) (fun i => l.length - i) ?_ 0 (Nat.zero_le _)
  intro i hi ih
  by_cases h : i < l.length
  · have h1 : (i : Int) < l.length := by omega
    have w := wrap_nat (n := i) (by omega)
    have hx := hc l[i] (List.getElem_mem h)
    simp only [Rx.enc_eq, Vals.enc, Mor.enc, Sta.enc, Con.enc, Line.enc, Ans.enc, Prob.enc, Prog.enc, Ses.enc, Equ.enc, Mon.enc, Frm.enc, Mov.enc, Stp.enc, Dfa.enc, IL, I, B] at hx
    simp only [go_sem, h, h1, w, getD_map h, fill_len IL l _ hi, hx]
    rw [fill_set IL l _ h _ (by simp only [Rx.enc_eq, Vals.enc, Mor.enc, Sta.enc, Con.enc, Line.enc, Ans.enc, Prob.enc, Prog.enc, Ses.enc, Equ.enc, Mon.enc, Frm.enc, Mov.enc, Stp.enc, Dfa.enc, IL, I, B])]
    exact ih (i + 1) (by omega) (by omega)
  · have h1 : ¬ (i : Int) < l.length := by omega
    obtain rfl : i = l.length := by omega
    simp only [go_sem, h1, fill_all]

theorem r22 (x : Equ) (hs : szT x.enc ≤ 1048576) : run EE 22 [x.enc] [] = some (x.enc, []) := by
  have hs' := hs
  simp only [Rx.enc_eq, Vals.enc, Mor.enc, Sta.enc, Con.enc, Line.enc, Ans.enc, Prob.enc, Prog.enc, Ses.enc, Equ.enc, Mon.enc, Frm.enc, Mov.enc, Stp.enc, Dfa.enc, IL, I, B, szT, szL, List.length_map] at hs'
  rw [run_eq EE 22 _ _ Try.func22 (by decide +kernel) rfl (show 1 ≤ _ by decide)]
  dsimp only [Try.f22]
  simp only [go_sem]

theorem r23 (x : Mon) (hs : szT x.enc ≤ 1048576) : run EE 23 [x.enc] [] = some (x.enc, []) := by
  have hs' := hs
  simp only [Rx.enc_eq, Vals.enc, Mor.enc, Sta.enc, Con.enc, Line.enc, Ans.enc, Prob.enc, Prog.enc, Ses.enc, Equ.enc, Mon.enc, Frm.enc, Mov.enc, Stp.enc, Dfa.enc, IL, I, B, szT, szL, List.length_map] at hs'
  have q0 := r24 x.maps (by simp only [Rx.enc_eq, Vals.enc, Mor.enc, Sta.enc, Con.enc, Line.enc, Ans.enc, Prob.enc, Prog.enc, Ses.enc, Equ.enc, Mon.enc, Frm.enc, Mov.enc, Stp.enc, Dfa.enc, szT, szL, List.length_map] at hs; omega) (fun z hz => r46 z (by have := szL_mem (f := IL) hz; simp only [IL, szT, List.length_map] at this; simp only [Rx.enc_eq, Vals.enc, Mor.enc, Sta.enc, Con.enc, Line.enc, Ans.enc, Prob.enc, Prog.enc, Ses.enc, Equ.enc, Mon.enc, Frm.enc, Mov.enc, Stp.enc, Dfa.enc, szT, szL, List.length_map] at hs; omega))
  try simp only [Rx.enc_eq, Vals.enc, Mor.enc, Sta.enc, Con.enc, Line.enc, Ans.enc, Prob.enc, Prog.enc, Ses.enc, Equ.enc, Mon.enc, Frm.enc, Mov.enc, Stp.enc, Dfa.enc, IL, I, B] at q0
  have q1 := r46 x.letters (by simp only [Rx.enc_eq, Vals.enc, Mor.enc, Sta.enc, Con.enc, Line.enc, Ans.enc, Prob.enc, Prog.enc, Ses.enc, Equ.enc, Mon.enc, Frm.enc, Mov.enc, Stp.enc, Dfa.enc, szT, szL, List.length_map] at hs; omega)
  try simp only [Rx.enc_eq, Vals.enc, Mor.enc, Sta.enc, Con.enc, Line.enc, Ans.enc, Prob.enc, Prog.enc, Ses.enc, Equ.enc, Mon.enc, Frm.enc, Mov.enc, Stp.enc, Dfa.enc, IL, I, B] at q1
  have q2 := r24 x.product (by simp only [Rx.enc_eq, Vals.enc, Mor.enc, Sta.enc, Con.enc, Line.enc, Ans.enc, Prob.enc, Prog.enc, Ses.enc, Equ.enc, Mon.enc, Frm.enc, Mov.enc, Stp.enc, Dfa.enc, szT, szL, List.length_map] at hs; omega) (fun z hz => r46 z (by have := szL_mem (f := IL) hz; simp only [IL, szT, List.length_map] at this; simp only [Rx.enc_eq, Vals.enc, Mor.enc, Sta.enc, Con.enc, Line.enc, Ans.enc, Prob.enc, Prog.enc, Ses.enc, Equ.enc, Mon.enc, Frm.enc, Mov.enc, Stp.enc, Dfa.enc, szT, szL, List.length_map] at hs; omega))
  try simp only [Rx.enc_eq, Vals.enc, Mor.enc, Sta.enc, Con.enc, Line.enc, Ans.enc, Prob.enc, Prog.enc, Ses.enc, Equ.enc, Mon.enc, Frm.enc, Mov.enc, Stp.enc, Dfa.enc, IL, I, B] at q2
  rw [run_eq EE 23 _ _ Try.func23 (by decide +kernel) rfl (show 1 ≤ _ by decide)]
  dsimp only [Try.f23]
  simp only [go_sem, q0, q1, q2]

theorem r7 (x : Frm) (hs : szT x.enc ≤ 1048576) : run EE 7 [x.enc] [] = some (x.enc, []) := by
  have hs' := hs
  simp only [Rx.enc_eq, Vals.enc, Mor.enc, Sta.enc, Con.enc, Line.enc, Ans.enc, Prob.enc, Prog.enc, Ses.enc, Equ.enc, Mon.enc, Frm.enc, Mov.enc, Stp.enc, Dfa.enc, IL, I, B, szT, szL, List.length_map] at hs'
  have q0 := r22 x.equ (by simp only [Rx.enc_eq, Vals.enc, Mor.enc, Sta.enc, Con.enc, Line.enc, Ans.enc, Prob.enc, Prog.enc, Ses.enc, Equ.enc, Mon.enc, Frm.enc, Mov.enc, Stp.enc, Dfa.enc, szT, szL, List.length_map] at hs ⊢; omega)
  try simp only [Rx.enc_eq, Vals.enc, Mor.enc, Sta.enc, Con.enc, Line.enc, Ans.enc, Prob.enc, Prog.enc, Ses.enc, Equ.enc, Mon.enc, Frm.enc, Mov.enc, Stp.enc, Dfa.enc, IL, I, B] at q0
  have q1 := r23 x.mon (by simp only [Rx.enc_eq, Vals.enc, Mor.enc, Sta.enc, Con.enc, Line.enc, Ans.enc, Prob.enc, Prog.enc, Ses.enc, Equ.enc, Mon.enc, Frm.enc, Mov.enc, Stp.enc, Dfa.enc, szT, szL, List.length_map] at hs ⊢; omega)
  try simp only [Rx.enc_eq, Vals.enc, Mor.enc, Sta.enc, Con.enc, Line.enc, Ans.enc, Prob.enc, Prog.enc, Ses.enc, Equ.enc, Mon.enc, Frm.enc, Mov.enc, Stp.enc, Dfa.enc, IL, I, B] at q1
  have q2 := r24 x.allowed (by simp only [Rx.enc_eq, Vals.enc, Mor.enc, Sta.enc, Con.enc, Line.enc, Ans.enc, Prob.enc, Prog.enc, Ses.enc, Equ.enc, Mon.enc, Frm.enc, Mov.enc, Stp.enc, Dfa.enc, szT, szL, List.length_map] at hs; omega) (fun z hz => r46 z (by have := szL_mem (f := IL) hz; simp only [IL, szT, List.length_map] at this; simp only [Rx.enc_eq, Vals.enc, Mor.enc, Sta.enc, Con.enc, Line.enc, Ans.enc, Prob.enc, Prog.enc, Ses.enc, Equ.enc, Mon.enc, Frm.enc, Mov.enc, Stp.enc, Dfa.enc, szT, szL, List.length_map] at hs; omega))
  try simp only [Rx.enc_eq, Vals.enc, Mor.enc, Sta.enc, Con.enc, Line.enc, Ans.enc, Prob.enc, Prog.enc, Ses.enc, Equ.enc, Mon.enc, Frm.enc, Mov.enc, Stp.enc, Dfa.enc, IL, I, B] at q2
  rw [run_eq EE 7 _ _ Try.func7 (by decide +kernel) rfl (show 1 ≤ _ by decide)]
  dsimp only [Try.f7]
  simp only [go_sem, q0, q1, q2]

theorem r25 (x : Sta) (hs : szT x.enc ≤ 1048576) : run EE 25 [x.enc] [] = some (x.enc, []) := by
  have hs' := hs
  simp only [Rx.enc_eq, Vals.enc, Mor.enc, Sta.enc, Con.enc, Line.enc, Ans.enc, Prob.enc, Prog.enc, Ses.enc, Equ.enc, Mon.enc, Frm.enc, Mov.enc, Stp.enc, Dfa.enc, IL, I, B, szT, szL, List.length_map] at hs'
  have q0 := r46 x.maps (by simp only [Rx.enc_eq, Vals.enc, Mor.enc, Sta.enc, Con.enc, Line.enc, Ans.enc, Prob.enc, Prog.enc, Ses.enc, Equ.enc, Mon.enc, Frm.enc, Mov.enc, Stp.enc, Dfa.enc, IL, I, B, szT, szL, List.length_map] at hs; omega)
  try simp only [Rx.enc_eq, Vals.enc, Mor.enc, Sta.enc, Con.enc, Line.enc, Ans.enc, Prob.enc, Prog.enc, Ses.enc, Equ.enc, Mon.enc, Frm.enc, Mov.enc, Stp.enc, Dfa.enc, IL, I, B] at q0
  rw [run_eq EE 25 _ _ Try.func25 (by decide +kernel) rfl (show 1 ≤ _ by decide)]
  dsimp only [Try.f25]
  simp only [go_sem, q0]

theorem r8 (l : List Sta) (hl : l.length ≤ 1048576) (hc : ∀ x ∈ l, run EE 25 [(Sta.enc x)] [] = some ((Sta.enc x), [])) : run EE 8 [.slc false 3 (l.map Sta.enc)] [] = some (.slc false 3 (l.map Sta.enc), []) := by
  rw [run_eq EE 8 _ _ Try.func8 (by decide +kernel) rfl (show 1 ≤ _ by decide)]
  dsimp only [Try.f8]
  have h8 : (l.length : Int) * 56 ≤ 140737488355328 := by omega
  simp only [go_sem, h8]
  refine iter_inv (fun i : Nat => i ≤ l.length) (fun i => { t := upd (upd (upd (e0) 4 (.int .i64 i)) 3 (.aref 0 7 l.length)) 0 (.slc false 3 (l.map Sta.enc)), b := upd (n0) 7 (some (Ob.arr false 3 (fill Sta.enc l (dflt Try.prog 39) i))), o := [], r := #[ResultVar.tmp 2], f := 8, n := 23 }) (fun _ => some (.slc false 3 (l.map Sta.enc), [])) (fun i => l.length - i) ?_ 0 (Nat.zero_le _)
  intro i hi ih
  by_cases h : i < l.length
  · have h1 : (i : Int) < l.length := by omega
    have w := wrap_nat (n := i) (by omega)
    have hx := hc l[i] (List.getElem_mem h)
    simp only [Rx.enc_eq, Vals.enc, Mor.enc, Sta.enc, Con.enc, Line.enc, Ans.enc, Prob.enc, Prog.enc, Ses.enc, Equ.enc, Mon.enc, Frm.enc, Mov.enc, Stp.enc, Dfa.enc, IL, I, B] at hx
    simp only [go_sem, h, h1, w, getD_map h, fill_len Sta.enc l _ hi, hx]
    rw [fill_set Sta.enc l _ h _ (by simp only [Rx.enc_eq, Vals.enc, Mor.enc, Sta.enc, Con.enc, Line.enc, Ans.enc, Prob.enc, Prog.enc, Ses.enc, Equ.enc, Mon.enc, Frm.enc, Mov.enc, Stp.enc, Dfa.enc, IL, I, B])]
    exact ih (i + 1) (by omega) (by omega)
  · have h1 : ¬ (i : Int) < l.length := by omega
    obtain rfl : i = l.length := by omega
    simp only [go_sem, h1, fill_all]
end Go.Ev
namespace Go.Ev
open Go Go.Proofs
set_option maxRecDepth 10000
set_option linter.unusedVariables false
set_option linter.unusedSimpArgs false
theorem r65 (l m : List Int) (hl : l.length ≤ 1048576) : run EE 65 [.slc false 1 (l.map I), .slc false 1 (m.map I)] [] = some (.bool (veqs (l.map I) (m.map I)), []) := by
  rw [run_eq EE 65 _ _ Try.func65 (by decide +kernel) rfl (show 2 ≤ _ by decide)]
  dsimp only [Try.f65]
  by_cases hn : l.length = m.length
  · have hn' : (l.length : Int) = m.length := by omega
    simp only [go_sem, hn', bne_self_eq_false]
    refine iter_inv (fun i : Nat => i ≤ l.length) (fun i => { t := upd (upd (upd (e0) 5 (.int .i64 i)) 1 (.slc false 1 (m.map I))) 0 (.slc false 1 (l.map I)), b := n0, o := [], r := #[ResultVar.tmp 4], f := 65, n := 26 }) (fun i => some (.bool (veqs ((l.drop i).map I) ((m.drop i).map I)), [])) (fun i => l.length - i) ?_ 0 (Nat.zero_le _)
    intro i hi ih
    by_cases h : i < l.length
    · have h1 : (i : Int) < l.length := by omega
      have h1' : (i : Int) < m.length := by omega
      have h' : i < m.length := by omega
      have w := wrap_nat (n := i) (by omega)
      simp only [go_sem, h1, h1']
      rw [q_drawn]
      rotate_left
      · kernel_rfl
      simp only [go_sem, h1, h1', w, getD_map h, getD_map h', I]
      rw [List.drop_eq_getElem_cons h, List.drop_eq_getElem_cons h', List.map_cons, List.map_cons, veqs_cons]
      refine condL_bool (fun c => ?_) (fun c => ?_)
      · have c' : (l[i] == m[i]) = false := by simpa [bne] using c
        simp only [go_sem, I, veq, c', Bool.false_and]
      · have c' : (l[i] == m[i]) = true := by simpa [bne] using c
        simp only [go_sem, w, I, veq, c', Bool.true_and]
        exact ih (i + 1) (by omega) (by omega)
    · have h1 : ¬ (i : Int) < l.length := by omega
      have h1' : ¬ (i : Int) < m.length := by omega
      have e1 : l.drop i = [] := List.drop_eq_nil_of_le (by omega)
      have e2 : m.drop i = [] := List.drop_eq_nil_of_le (by omega)
      simp only [go_sem, h1, h1', e1, e2, veqs]
  · have hn' : ((l.length : Int) != m.length) = true := by simp; omega
    simp only [go_sem, hn']
    rw [veqs_ne (by simpa using hn)]

theorem r34 (l m : List (List Int)) (hl : l.length ≤ 1048576) (hc : ∀ x ∈ l, ∀ y : (List Int), run EE 65 [(IL x), (IL y)] [] = some (.bool (veq (IL x) (IL y)), [])) : run EE 34 [.slc false 1 (l.map IL), .slc false 1 (m.map IL)] [] = some (.bool (veqs (l.map IL) (m.map IL)), []) := by
  rw [run_eq EE 34 _ _ Try.func34 (by decide +kernel) rfl (show 2 ≤ _ by decide)]
  dsimp only [Try.f34]
  by_cases hn : l.length = m.length
  · have hn' : (l.length : Int) = m.length := by omega
    simp only [go_sem, hn', bne_self_eq_false]
    refine iter_inv (fun i : Nat => i ≤ l.length) (fun i => { t := upd (upd (upd (e0) 5 (.int .i64 i)) 1 (.slc false 1 (m.map IL))) 0 (.slc false 1 (l.map IL)), b := n0, o := [], r := #[ResultVar.tmp 4], f := 34, n := 27 }) (fun i => some (.bool (veqs ((l.drop i).map IL) ((m.drop i).map IL)), [])) (fun i => l.length - i) ?_ 0 (Nat.zero_le _)
    intro i hi ih
    by_cases h : i < l.length
    · have h1 : (i : Int) < l.length := by omega
      have h1' : (i : Int) < m.length := by omega
      have h' : i < m.length := by omega
      have w := wrap_nat (n := i) (by omega)
      have hx := hc l[i] (List.getElem_mem h) m[i]
      rw [List.drop_eq_getElem_cons h, List.drop_eq_getElem_cons h', List.map_cons, List.map_cons, veqs_cons]
      generalize veq (IL l[i]) (IL m[i]) = r at hx ⊢
      simp only [Rx.enc_eq, Vals.enc, Mor.enc, Sta.enc, Con.enc, Line.enc, Ans.enc, Prob.enc, Prog.enc, Ses.enc, Equ.enc, Mon.enc, Frm.enc, Mov.enc, Stp.enc, Dfa.enc, IL, I, B] at hx
      simp only [go_sem, h1, h1']
      rw [q_drawn]
      rotate_left
      · kernel_rfl
      simp only [go_sem, h1, h1', w, getD_map h, getD_map h', hx]
      cases r
      · simp only [go_sem, Bool.not_false, Bool.false_and]
      · simp only [go_sem, w, Bool.not_true, Bool.true_and]
        exact ih (i + 1) (by omega) (by omega)
    · have h1 : ¬ (i : Int) < l.length := by omega
      have h1' : ¬ (i : Int) < m.length := by omega
      have e1 : l.drop i = [] := List.drop_eq_nil_of_le (by omega)
      have e2 : m.drop i = [] := List.drop_eq_nil_of_le (by omega)
      simp only [go_sem, h1, h1', e1, e2, List.map_nil, veqs]
  · have hn' : ((l.length : Int) != m.length) = true := by simp; omega
    simp only [go_sem, hn']
    rw [veqs_ne (by simpa using hn)]

theorem r32 (x y : Equ) (hs : szT x.enc ≤ 1048576) : run EE 32 [x.enc, y.enc] [] = some (.bool (veq x.enc y.enc), []) := by
  have hs' := hs
  simp only [Rx.enc_eq, Vals.enc, Mor.enc, Sta.enc, Con.enc, Line.enc, Ans.enc, Prob.enc, Prog.enc, Ses.enc, Equ.enc, Mon.enc, Frm.enc, Mov.enc, Stp.enc, Dfa.enc, IL, I, B, szT, szL, List.length_map] at hs'
  rw [run_eq EE 32 _ _ Try.func32 (by decide +kernel) rfl (show 2 ≤ _ by decide)]
  dsimp only [Try.f32]
  simp only [go_sem, condL_b, bne, veq, veqs]
  generalize (x.left.toList == y.left.toList) = b0
  generalize (x.right.toList == y.right.toList) = b1
  cases b0 <;> cases b1 <;> rfl

theorem r33 (x y : Mon) (hs : szT x.enc ≤ 1048576) : run EE 33 [x.enc, y.enc] [] = some (.bool (veq x.enc y.enc), []) := by
  have hs' := hs
  simp only [Rx.enc_eq, Vals.enc, Mor.enc, Sta.enc, Con.enc, Line.enc, Ans.enc, Prob.enc, Prog.enc, Ses.enc, Equ.enc, Mon.enc, Frm.enc, Mov.enc, Stp.enc, Dfa.enc, IL, I, B, szT, szL, List.length_map] at hs'
  have q0 := r34 x.maps y.maps (by simp only [Rx.enc_eq, Vals.enc, Mor.enc, Sta.enc, Con.enc, Line.enc, Ans.enc, Prob.enc, Prog.enc, Ses.enc, Equ.enc, Mon.enc, Frm.enc, Mov.enc, Stp.enc, Dfa.enc, szT, szL, List.length_map] at hs; omega) (fun z hz v => (r65 z v (by have := szL_mem (f := IL) hz; simp only [IL, szT, List.length_map] at this; simp only [Rx.enc_eq, Vals.enc, Mor.enc, Sta.enc, Con.enc, Line.enc, Ans.enc, Prob.enc, Prog.enc, Ses.enc, Equ.enc, Mon.enc, Frm.enc, Mov.enc, Stp.enc, Dfa.enc, szT, szL, List.length_map] at hs; omega)).trans (by simp only [IL, veq]))
  try simp only [Rx.enc_eq, Vals.enc, Mor.enc, Sta.enc, Con.enc, Line.enc, Ans.enc, Prob.enc, Prog.enc, Ses.enc, Equ.enc, Mon.enc, Frm.enc, Mov.enc, Stp.enc, Dfa.enc, IL, I, B] at q0
  have q1 := r65 x.letters y.letters (by simp only [Rx.enc_eq, Vals.enc, Mor.enc, Sta.enc, Con.enc, Line.enc, Ans.enc, Prob.enc, Prog.enc, Ses.enc, Equ.enc, Mon.enc, Frm.enc, Mov.enc, Stp.enc, Dfa.enc, szT, szL, List.length_map] at hs; omega)
  try simp only [Rx.enc_eq, Vals.enc, Mor.enc, Sta.enc, Con.enc, Line.enc, Ans.enc, Prob.enc, Prog.enc, Ses.enc, Equ.enc, Mon.enc, Frm.enc, Mov.enc, Stp.enc, Dfa.enc, IL, I, B] at q1
  have q2 := r34 x.product y.product (by simp only [Rx.enc_eq, Vals.enc, Mor.enc, Sta.enc, Con.enc, Line.enc, Ans.enc, Prob.enc, Prog.enc, Ses.enc, Equ.enc, Mon.enc, Frm.enc, Mov.enc, Stp.enc, Dfa.enc, szT, szL, List.length_map] at hs; omega) (fun z hz v => (r65 z v (by have := szL_mem (f := IL) hz; simp only [IL, szT, List.length_map] at this; simp only [Rx.enc_eq, Vals.enc, Mor.enc, Sta.enc, Con.enc, Line.enc, Ans.enc, Prob.enc, Prog.enc, Ses.enc, Equ.enc, Mon.enc, Frm.enc, Mov.enc, Stp.enc, Dfa.enc, szT, szL, List.length_map] at hs; omega)).trans (by simp only [IL, veq]))
  try simp only [Rx.enc_eq, Vals.enc, Mor.enc, Sta.enc, Con.enc, Line.enc, Ans.enc, Prob.enc, Prog.enc, Ses.enc, Equ.enc, Mon.enc, Frm.enc, Mov.enc, Stp.enc, Dfa.enc, IL, I, B] at q2
  rw [run_eq EE 33 _ _ Try.func33 (by decide +kernel) rfl (show 2 ≤ _ by decide)]
  dsimp only [Try.f33]
  simp only [go_sem, condL_b, bne, q0, q1, q2, veq, veqs]
  generalize (veqs (x.maps.map IL) (y.maps.map IL)) = b0
  generalize (veqs (x.letters.map I) (y.letters.map I)) = b1
  generalize (veqs (x.product.map IL) (y.product.map IL)) = b2
  cases b0 <;> cases b1 <;> cases b2 <;> rfl

theorem r10 (x y : Frm) (hs : szT x.enc ≤ 1048576) : run EE 10 [x.enc, y.enc] [] = some (.bool (veq x.enc y.enc), []) := by
  have hs' := hs
  simp only [Rx.enc_eq, Vals.enc, Mor.enc, Sta.enc, Con.enc, Line.enc, Ans.enc, Prob.enc, Prog.enc, Ses.enc, Equ.enc, Mon.enc, Frm.enc, Mov.enc, Stp.enc, Dfa.enc, IL, I, B, szT, szL, List.length_map] at hs'
  have q0 := r32 x.equ y.equ (by simp only [Rx.enc_eq, Vals.enc, Mor.enc, Sta.enc, Con.enc, Line.enc, Ans.enc, Prob.enc, Prog.enc, Ses.enc, Equ.enc, Mon.enc, Frm.enc, Mov.enc, Stp.enc, Dfa.enc, szT, szL, List.length_map] at hs ⊢; omega)
  try simp only [Rx.enc_eq, Vals.enc, Mor.enc, Sta.enc, Con.enc, Line.enc, Ans.enc, Prob.enc, Prog.enc, Ses.enc, Equ.enc, Mon.enc, Frm.enc, Mov.enc, Stp.enc, Dfa.enc, IL, I, B] at q0
  have q1 := r33 x.mon y.mon (by simp only [Rx.enc_eq, Vals.enc, Mor.enc, Sta.enc, Con.enc, Line.enc, Ans.enc, Prob.enc, Prog.enc, Ses.enc, Equ.enc, Mon.enc, Frm.enc, Mov.enc, Stp.enc, Dfa.enc, szT, szL, List.length_map] at hs ⊢; omega)
  try simp only [Rx.enc_eq, Vals.enc, Mor.enc, Sta.enc, Con.enc, Line.enc, Ans.enc, Prob.enc, Prog.enc, Ses.enc, Equ.enc, Mon.enc, Frm.enc, Mov.enc, Stp.enc, Dfa.enc, IL, I, B] at q1
  have q2 := r34 x.allowed y.allowed (by simp only [Rx.enc_eq, Vals.enc, Mor.enc, Sta.enc, Con.enc, Line.enc, Ans.enc, Prob.enc, Prog.enc, Ses.enc, Equ.enc, Mon.enc, Frm.enc, Mov.enc, Stp.enc, Dfa.enc, szT, szL, List.length_map] at hs; omega) (fun z hz v => (r65 z v (by have := szL_mem (f := IL) hz; simp only [IL, szT, List.length_map] at this; simp only [Rx.enc_eq, Vals.enc, Mor.enc, Sta.enc, Con.enc, Line.enc, Ans.enc, Prob.enc, Prog.enc, Ses.enc, Equ.enc, Mon.enc, Frm.enc, Mov.enc, Stp.enc, Dfa.enc, szT, szL, List.length_map] at hs; omega)).trans (by simp only [IL, veq]))
  try simp only [Rx.enc_eq, Vals.enc, Mor.enc, Sta.enc, Con.enc, Line.enc, Ans.enc, Prob.enc, Prog.enc, Ses.enc, Equ.enc, Mon.enc, Frm.enc, Mov.enc, Stp.enc, Dfa.enc, IL, I, B] at q2
  rw [run_eq EE 10 _ _ Try.func10 (by decide +kernel) rfl (show 2 ≤ _ by decide)]
  dsimp only [Try.f10]
  simp only [go_sem, condL_b, bne, q0, q1, q2, veq, veqs]
  generalize (x.equ.left.toList == y.equ.left.toList) = b0
  generalize (x.equ.right.toList == y.equ.right.toList) = b1
  generalize (veqs (x.mon.maps.map IL) (y.mon.maps.map IL)) = b2
  generalize (veqs (x.mon.letters.map I) (y.mon.letters.map I)) = b3
  generalize (veqs (x.mon.product.map IL) (y.mon.product.map IL)) = b4
  generalize (veqs (x.allowed.map IL) (y.allowed.map IL)) = b5
  cases b0 <;> cases b1 <;> cases b2 <;> cases b3 <;> cases b4 <;> cases b5 <;> rfl

theorem r35 (x y : Sta) (hs : szT x.enc ≤ 1048576) : run EE 35 [x.enc, y.enc] [] = some (.bool (veq x.enc y.enc), []) := by
  have hs' := hs
  simp only [Rx.enc_eq, Vals.enc, Mor.enc, Sta.enc, Con.enc, Line.enc, Ans.enc, Prob.enc, Prog.enc, Ses.enc, Equ.enc, Mon.enc, Frm.enc, Mov.enc, Stp.enc, Dfa.enc, IL, I, B, szT, szL, List.length_map] at hs'
  have q0 := r65 x.maps y.maps (by simp only [Rx.enc_eq, Vals.enc, Mor.enc, Sta.enc, Con.enc, Line.enc, Ans.enc, Prob.enc, Prog.enc, Ses.enc, Equ.enc, Mon.enc, Frm.enc, Mov.enc, Stp.enc, Dfa.enc, IL, I, B, szT, szL, List.length_map] at hs; omega)
  try simp only [Rx.enc_eq, Vals.enc, Mor.enc, Sta.enc, Con.enc, Line.enc, Ans.enc, Prob.enc, Prog.enc, Ses.enc, Equ.enc, Mon.enc, Frm.enc, Mov.enc, Stp.enc, Dfa.enc, IL, I, B] at q0
  rw [run_eq EE 35 _ _ Try.func35 (by decide +kernel) rfl (show 2 ≤ _ by decide)]
  dsimp only [Try.f35]
  simp only [go_sem, condL_b, bne, q0, veq, veqs]
  generalize (x.left.toList == y.left.toList) = b0
  generalize (x.right.toList == y.right.toList) = b1
  generalize (veqs (x.maps.map I) (y.maps.map I)) = b2
  cases b0 <;> cases b1 <;> cases b2 <;> rfl

theorem r11 (l m : List Sta) (hl : l.length ≤ 1048576) (hc : ∀ x ∈ l, ∀ y : Sta, run EE 35 [(Sta.enc x), (Sta.enc y)] [] = some (.bool (veq (Sta.enc x) (Sta.enc y)), [])) : run EE 11 [.slc false 3 (l.map Sta.enc), .slc false 3 (m.map Sta.enc)] [] = some (.bool (veqs (l.map Sta.enc) (m.map Sta.enc)), []) := by
  rw [run_eq EE 11 _ _ Try.func11 (by decide +kernel) rfl (show 2 ≤ _ by decide)]
  dsimp only [Try.f11]
  by_cases hn : l.length = m.length
  · have hn' : (l.length : Int) = m.length := by omega
    simp only [go_sem, hn', bne_self_eq_false]
    refine iter_inv (fun i : Nat => i ≤ l.length) (fun i => { t := upd (upd (upd (e0) 5 (.int .i64 i)) 1 (.slc false 3 (m.map Sta.enc))) 0 (.slc false 3 (l.map Sta.enc)), b := n0, o := [], r := #[ResultVar.tmp 4], f := 11, n := 27 }) (fun i => some (.bool (veqs ((l.drop i).map Sta.enc) ((m.drop i).map Sta.enc)), [])) (fun i => l.length - i) ?_ 0 (Nat.zero_le _)
    intro i hi ih
    by_cases h : i < l.length
    · have h1 : (i : Int) < l.length := by omega
      have h1' : (i : Int) < m.length := by omega
      have h' : i < m.length := by omega
      have w := wrap_nat (n := i) (by omega)
      have hx := hc l[i] (List.getElem_mem h) m[i]
      rw [List.drop_eq_getElem_cons h, List.drop_eq_getElem_cons h', List.map_cons, List.map_cons, veqs_cons]
      generalize veq (Sta.enc l[i]) (Sta.enc m[i]) = r at hx ⊢
      simp only [Rx.enc_eq, Vals.enc, Mor.enc, Sta.enc, Con.enc, Line.enc, Ans.enc, Prob.enc, Prog.enc, Ses.enc, Equ.enc, Mon.enc, Frm.enc, Mov.enc, Stp.enc, Dfa.enc, IL, I, B] at hx
      simp only [go_sem, h1, h1']
      rw [q_drawn]
      rotate_left
      · kernel_rfl
      simp only [go_sem, h1, h1', w, getD_map h, getD_map h', hx]
      cases r
      · simp only [go_sem, Bool.not_false, Bool.false_and]
      · simp only [go_sem, w, Bool.not_true, Bool.true_and]
        exact ih (i + 1) (by omega) (by omega)
    · have h1 : ¬ (i : Int) < l.length := by omega
      have h1' : ¬ (i : Int) < m.length := by omega
      have e1 : l.drop i = [] := List.drop_eq_nil_of_le (by omega)
      have e2 : m.drop i = [] := List.drop_eq_nil_of_le (by omega)
      simp only [go_sem, h1, h1', e1, e2, List.map_nil, veqs]
  · have hn' : ((l.length : Int) != m.length) = true := by simp; omega
    simp only [go_sem, hn']
    rw [veqs_ne (by simpa using hn)]
end Go.Ev
namespace Go.Ev
open Go Go.Proofs
set_option maxRecDepth 10000
set_option linter.unusedVariables false
set_option linter.unusedSimpArgs false

theorem law3 (x : Frm) (l : List Sta) (ox : okV x.enc) (ol : l.length ≤ 9223372036854775807 ∧ okL (l.map Sta.enc)) : run EE 3 [x.enc, .slc false 3 (l.map Sta.enc)] [] = some (.bool true, []) := by
  have z1 := r4 x ox 1048576 (by omega) (by omega)
  unfold szR at z1
  generalize hn1 : szT x.enc = n1 at z1
  simp only [Rx.enc_eq, Vals.enc, Mor.enc, Sta.enc, Con.enc, Line.enc, Ans.enc, Prob.enc, Prog.enc, Ses.enc, Equ.enc, Mon.enc, Frm.enc, Mov.enc, Stp.enc, Dfa.enc, IL, I, B] at z1
  rw [run_eq EE 3 _ _ Try.func3 (by decide +kernel) rfl (show 2 ≤ _ by decide)]
  dsimp only [Try.f3]
  simp only [go_sem, z1]
  refine condL_dec (fun c1 => ?_) (fun c1 => ?_)
  · simp only [go_sem]
  obtain ⟨e1, b1⟩ := leftOf_ge c1
  have z2 := r5 l ol.1 (fun z hz left h0 h1 => r15 z (okL_map ol.2 hz) left h0 h1) (1048576 - (n1 : Int)) (by omega) (by omega)
  unfold szR at z2
  generalize hn2 : szT (.slc false 3 (l.map Sta.enc)) = n2 at z2
  simp only [go_sem, e1, z2]
  refine condL_dec (fun c2 => ?_) (fun c2 => ?_)
  · simp only [go_sem]
  obtain ⟨e2, b2⟩ := leftOf_ge c2
  have hn2' := hn2
  simp only [szT, List.length_map] at hn2'
  have hS : ∀ z ∈ l, szT z.enc ≤ 1048576 := fun z hz => by have := szL_mem (f := Sta.enc) hz; omega
  have tx := r7 x (by omega)
  have tl := r8 l (by omega) (fun z hz => r25 z (hS z hz))
  have sp := r6 x l (FrmOk.of (by omega)) (by omega) (fun z hz => StaOk.of (hS z hz))
  have im := r9 x l (FrmOk.of (by omega)) (by omega) (fun z hz => StaOk.of (hS z hz))
  have ex := r10 x x (by omega)
  have el := r11 l l (by omega) (fun z hz y => r35 z y (hS z hz))
  rw [veq_refl] at ex
  rw [veqs_refl] at el
  generalize closed x l = b at sp im
  simp only [Rx.enc_eq, Vals.enc, Mor.enc, Sta.enc, Con.enc, Line.enc, Ans.enc, Prob.enc, Prog.enc, Ses.enc, Equ.enc, Mon.enc, Frm.enc, Mov.enc, Stp.enc, Dfa.enc, IL, I, B] at tx sp im ex
  have eb : (b != b) = false := by cases b <;> rfl
  simp only [go_sem, e1, e2, tx, tl, sp, im, bne, beq_self_eq_true, Bool.not_true]
  rw [q_drawn]
  rotate_left
  · kernel_rfl
  simp only [go_sem, tx, tl, ex, el, Bool.not_true]
end Go.Ev
namespace Go.Ev.Op
open Go Go.Proofs Go.RowKit Go.Ev
set_option maxRecDepth 10000
set_option linter.unusedVariables false
set_option linter.unusedSimpArgs false
theorem un9 : Try.prog.underlying 9 = some .string := by kernel_rfl
theorem ce9 : Try.prog.cellsOf 9 = 1 := by kernel_rfl
theorem fo23 : fieldsOf Try.prog 23 = some [(9, 0), (9, 1)] := by kernel_rfl
theorem ce23 : Try.prog.cellsOf 23 = 2 := by kernel_rfl
theorem ty23 : ∀ (n : Nat) (vs : List V), TyOk Try.prog n 23 vs → ∃ x : Equ, V.agg vs = x.enc ∧ okV x.enc := by
  intro n
  induction n using Nat.strongRecOn with
  | _ n ih =>
  cases n with
  | zero => intro vs h; cases h
  | succ n =>
    intro vs h
    obtain ⟨hl, hf⟩ := tyOk_struct fo23 h
    rw [ce23] at hl
    match vs, hl with
    | [a0, a1], _ =>
      have h0 := hf (9, 0) (by simp)
      dsimp only at h0
      rw [ce9] at h0
      simp only [List.drop_succ_cons, List.drop_zero, List.take_succ_cons, List.take_zero] at h0
      obtain ⟨m0, e0, o0⟩ := tyOk_str un9 h0
      obtain rfl : a0 = _ := (List.cons.inj e0).1
      have h1 := hf (9, 1) (by simp)
      dsimp only at h1
      rw [ce9] at h1
      simp only [List.drop_succ_cons, List.drop_zero, List.take_succ_cons, List.take_zero] at h1
      obtain ⟨m1, e1, o1⟩ := tyOk_str un9 h1
      obtain rfl : a1 = _ := (List.cons.inj e1).1
      refine ⟨⟨m0, m1⟩, ?_, ?_⟩
      · simp only [Rx.enc_eq, Vals.enc, Mor.enc, Sta.enc, Con.enc, Line.enc, Ans.enc, Prob.enc, Prog.enc, Ses.enc, Equ.enc, Mon.enc, Frm.enc, Mov.enc, Stp.enc, Dfa.enc, IL, I, B, V.agg.injEq, List.cons.injEq, and_true, true_and]
      · simp only [Rx.enc_eq, Vals.enc, Mor.enc, Sta.enc, Con.enc, Line.enc, Ans.enc, Prob.enc, Prog.enc, Ses.enc, Equ.enc, Mon.enc, Frm.enc, Mov.enc, Stp.enc, Dfa.enc, IL, I, B, okV, okL, List.length_map, and_true, true_and]
        simp only [o0, o1, and_self]
theorem un3 : Try.prog.underlying 3 = some (.int .i64) := by kernel_rfl
theorem ce3 : Try.prog.cellsOf 3 = 1 := by kernel_rfl
theorem un25 : Try.prog.underlying 25 = some (.slice 3) := by kernel_rfl
theorem ce25 : Try.prog.cellsOf 25 = 1 := by kernel_rfl
theorem ag3 : isAgg Try.prog 3 = false := by kernel_rfl
theorem ty25 : ∀ (n : Nat) (vs : List V), TyOk Try.prog n 25 vs → ∃ l : List Int, vs = [.slc false 1 (l.map I)] ∧ l.length ≤ 9223372036854775807 ∧ okL (l.map I) := by
  intro n vs h
  cases n with
  | zero => cases h
  | succ n =>
    obtain ⟨l, h1, h2, h3⟩ := tyOk_slc un25 (f := I) (fun us hu => ty_int1 ag3 un3 hu) h
    rw [ce3] at h1
    exact ⟨l, h1, h2, h3⟩
theorem un24 : Try.prog.underlying 24 = some (.slice 25) := by kernel_rfl
theorem ce24 : Try.prog.cellsOf 24 = 1 := by kernel_rfl
theorem ag25 : isAgg Try.prog 25 = false := by kernel_rfl
theorem ty24 : ∀ (n : Nat) (vs : List V), TyOk Try.prog n 24 vs → ∃ l : List (List Int), vs = [.slc false 1 (l.map IL)] ∧ l.length ≤ 9223372036854775807 ∧ okL (l.map IL) := by
  intro n vs h
  cases n with
  | zero => cases h
  | succ n =>
    obtain ⟨l, h1, h2, h3⟩ := tyOk_slc un24 (f := IL) (fun us hu => ty_slc1 ag25 (ty25 _ _ hu)) h
    rw [ce25] at h1
    exact ⟨l, h1, h2, h3⟩
theorem fo27 : fieldsOf Try.prog 27 = some [(24, 0), (25, 1), (24, 2)] := by kernel_rfl
theorem ce27 : Try.prog.cellsOf 27 = 3 := by kernel_rfl
theorem ty27 : ∀ (n : Nat) (vs : List V), TyOk Try.prog n 27 vs → ∃ x : Mon, V.agg vs = x.enc ∧ okV x.enc := by
  intro n
  induction n using Nat.strongRecOn with
  | _ n ih =>
  cases n with
  | zero => intro vs h; cases h
  | succ n =>
    intro vs h
    obtain ⟨hl, hf⟩ := tyOk_struct fo27 h
    rw [ce27] at hl
    match vs, hl with
    | [a0, a1, a2], _ =>
      have h0 := hf (24, 0) (by simp)
      dsimp only at h0
      rw [ce24] at h0
      simp only [List.drop_succ_cons, List.drop_zero, List.take_succ_cons, List.take_zero] at h0
      obtain ⟨m0, e0, l0, o0⟩ := ty24 _ _ h0
      obtain rfl : a0 = _ := (List.cons.inj e0).1
      have h1 := hf (25, 1) (by simp)
      dsimp only at h1
      rw [ce25] at h1
      simp only [List.drop_succ_cons, List.drop_zero, List.take_succ_cons, List.take_zero] at h1
      obtain ⟨m1, e1, l1, o1⟩ := ty25 _ _ h1
      obtain rfl : a1 = _ := (List.cons.inj e1).1
      have h2 := hf (24, 2) (by simp)
      dsimp only at h2
      rw [ce24] at h2
      simp only [List.drop_succ_cons, List.drop_zero, List.take_succ_cons, List.take_zero] at h2
      obtain ⟨m2, e2, l2, o2⟩ := ty24 _ _ h2
      obtain rfl : a2 = _ := (List.cons.inj e2).1
      refine ⟨⟨m0, m1, m2⟩, ?_, ?_⟩
      · simp only [Rx.enc_eq, Vals.enc, Mor.enc, Sta.enc, Con.enc, Line.enc, Ans.enc, Prob.enc, Prog.enc, Ses.enc, Equ.enc, Mon.enc, Frm.enc, Mov.enc, Stp.enc, Dfa.enc, IL, I, B, V.agg.injEq, List.cons.injEq, and_true, true_and]
      · simp only [Rx.enc_eq, Vals.enc, Mor.enc, Sta.enc, Con.enc, Line.enc, Ans.enc, Prob.enc, Prog.enc, Ses.enc, Equ.enc, Mon.enc, Frm.enc, Mov.enc, Stp.enc, Dfa.enc, IL, I, B, okV, okL, List.length_map, and_true, true_and]
        simp only [l0, o0, l1, o1, l2, o2, and_self]
theorem fo29 : fieldsOf Try.prog 29 = some [(23, 0), (27, 2), (24, 5)] := by kernel_rfl
theorem ce29 : Try.prog.cellsOf 29 = 6 := by kernel_rfl
theorem ty29 : ∀ (n : Nat) (vs : List V), TyOk Try.prog n 29 vs → ∃ x : Frm, V.agg vs = x.enc ∧ okV x.enc := by
  intro n
  induction n using Nat.strongRecOn with
  | _ n ih =>
  cases n with
  | zero => intro vs h; cases h
  | succ n =>
    intro vs h
    obtain ⟨hl, hf⟩ := tyOk_struct fo29 h
    rw [ce29] at hl
    match vs, hl with
    | [a0, a1, a2, a3, a4, a5], _ =>
      have h0 := hf (23, 0) (by simp)
      dsimp only at h0
      rw [ce23] at h0
      simp only [List.drop_succ_cons, List.drop_zero, List.take_succ_cons, List.take_zero] at h0
      obtain ⟨m0, e0, o0⟩ := ty23 _ _ h0
      have h1 := hf (27, 2) (by simp)
      dsimp only at h1
      rw [ce27] at h1
      simp only [List.drop_succ_cons, List.drop_zero, List.take_succ_cons, List.take_zero] at h1
      obtain ⟨m1, e1, o1⟩ := ty27 _ _ h1
      have h2 := hf (24, 5) (by simp)
      dsimp only at h2
      rw [ce24] at h2
      simp only [List.drop_succ_cons, List.drop_zero, List.take_succ_cons, List.take_zero] at h2
      obtain ⟨m2, e2, l2, o2⟩ := ty24 _ _ h2
      obtain rfl : a5 = _ := (List.cons.inj e2).1
      refine ⟨⟨m0, m1, m2⟩, ?_, ?_⟩
      · simp only [Rx.enc_eq, Vals.enc, Mor.enc, Sta.enc, Con.enc, Line.enc, Ans.enc, Prob.enc, Prog.enc, Ses.enc, Equ.enc, Mon.enc, Frm.enc, Mov.enc, Stp.enc, Dfa.enc, IL, I, B, V.agg.injEq, List.cons.injEq, and_true] at e0; simp only [Rx.enc_eq, Vals.enc, Mor.enc, Sta.enc, Con.enc, Line.enc, Ans.enc, Prob.enc, Prog.enc, Ses.enc, Equ.enc, Mon.enc, Frm.enc, Mov.enc, Stp.enc, Dfa.enc, IL, I, B, V.agg.injEq, List.cons.injEq, and_true] at e1; simp only [Rx.enc_eq, Vals.enc, Mor.enc, Sta.enc, Con.enc, Line.enc, Ans.enc, Prob.enc, Prog.enc, Ses.enc, Equ.enc, Mon.enc, Frm.enc, Mov.enc, Stp.enc, Dfa.enc, IL, I, B, V.agg.injEq, List.cons.injEq, and_true, true_and, e0, e1]
      · simp only [Rx.enc_eq, Vals.enc, Mor.enc, Sta.enc, Con.enc, Line.enc, Ans.enc, Prob.enc, Prog.enc, Ses.enc, Equ.enc, Mon.enc, Frm.enc, Mov.enc, Stp.enc, Dfa.enc, IL, I, B, okV, okL, List.length_map, and_true, true_and]
        simp only [Rx.enc_eq, Vals.enc, Mor.enc, Sta.enc, Con.enc, Line.enc, Ans.enc, Prob.enc, Prog.enc, Ses.enc, Equ.enc, Mon.enc, Frm.enc, Mov.enc, Stp.enc, Dfa.enc, IL, I, B, okV, okL, List.length_map, and_true, true_and] at o0
        simp only [Rx.enc_eq, Vals.enc, Mor.enc, Sta.enc, Con.enc, Line.enc, Ans.enc, Prob.enc, Prog.enc, Ses.enc, Equ.enc, Mon.enc, Frm.enc, Mov.enc, Stp.enc, Dfa.enc, IL, I, B, okV, okL, List.length_map, and_true, true_and] at o1
        simp only [o0, o1, l2, o2, and_self]
theorem fo49 : fieldsOf Try.prog 49 = some [(9, 0), (9, 1), (25, 2)] := by kernel_rfl
theorem ce49 : Try.prog.cellsOf 49 = 3 := by kernel_rfl
theorem ty49 : ∀ (n : Nat) (vs : List V), TyOk Try.prog n 49 vs → ∃ x : Sta, V.agg vs = x.enc ∧ okV x.enc := by
  intro n
  induction n using Nat.strongRecOn with
  | _ n ih =>
  cases n with
  | zero => intro vs h; cases h
  | succ n =>
    intro vs h
    obtain ⟨hl, hf⟩ := tyOk_struct fo49 h
    rw [ce49] at hl
    match vs, hl with
    | [a0, a1, a2], _ =>
      have h0 := hf (9, 0) (by simp)
      dsimp only at h0
      rw [ce9] at h0
      simp only [List.drop_succ_cons, List.drop_zero, List.take_succ_cons, List.take_zero] at h0
      obtain ⟨m0, e0, o0⟩ := tyOk_str un9 h0
      obtain rfl : a0 = _ := (List.cons.inj e0).1
      have h1 := hf (9, 1) (by simp)
      dsimp only at h1
      rw [ce9] at h1
      simp only [List.drop_succ_cons, List.drop_zero, List.take_succ_cons, List.take_zero] at h1
      obtain ⟨m1, e1, o1⟩ := tyOk_str un9 h1
      obtain rfl : a1 = _ := (List.cons.inj e1).1
      have h2 := hf (25, 2) (by simp)
      dsimp only at h2
      rw [ce25] at h2
      simp only [List.drop_succ_cons, List.drop_zero, List.take_succ_cons, List.take_zero] at h2
      obtain ⟨m2, e2, l2, o2⟩ := ty25 _ _ h2
      obtain rfl : a2 = _ := (List.cons.inj e2).1
      refine ⟨⟨m0, m1, m2⟩, ?_, ?_⟩
      · simp only [Rx.enc_eq, Vals.enc, Mor.enc, Sta.enc, Con.enc, Line.enc, Ans.enc, Prob.enc, Prog.enc, Ses.enc, Equ.enc, Mon.enc, Frm.enc, Mov.enc, Stp.enc, Dfa.enc, IL, I, B, V.agg.injEq, List.cons.injEq, and_true, true_and]
      · simp only [Rx.enc_eq, Vals.enc, Mor.enc, Sta.enc, Con.enc, Line.enc, Ans.enc, Prob.enc, Prog.enc, Ses.enc, Equ.enc, Mon.enc, Frm.enc, Mov.enc, Stp.enc, Dfa.enc, IL, I, B, okV, okL, List.length_map, and_true, true_and]
        simp only [o0, o1, l2, o2, and_self]
theorem un30 : Try.prog.underlying 30 = some (.slice 49) := by kernel_rfl
theorem ce30 : Try.prog.cellsOf 30 = 1 := by kernel_rfl
theorem ag49 : isAgg Try.prog 49 = true := by kernel_rfl
theorem ty30 : ∀ (n : Nat) (vs : List V), TyOk Try.prog n 30 vs → ∃ l : List Sta, vs = [.slc false 3 (l.map Sta.enc)] ∧ l.length ≤ 9223372036854775807 ∧ okL (l.map Sta.enc) := by
  intro n vs h
  cases n with
  | zero => cases h
  | succ n =>
    obtain ⟨l, h1, h2, h3⟩ := tyOk_slc un30 (f := Sta.enc) (fun us hu => ty_agg ag49 (ty49 _ _ hu)) h
    rw [ce49] at h1
    exact ⟨l, h1, h2, h3⟩
theorem closed : closedT Try.prog [9, 23, 3, 25, 24, 27, 29, 49, 30] = true := by kernel_rfl
end Go.Ev.Op
