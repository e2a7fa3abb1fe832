-- by wip/tools (a patched print, this session's own)
import Derived.Test.YtdepiibcopbjlaaPFnExactFitsStatex0
import Derived.Test.YtdepiibcopbjlaaPFnExactFitsStatex1
import Derived.Test.YtdepiibcopbjlaaPFnExactFitsStatex2
import Derived.Test.YtdepiibcopbjlaaPFnExactFitsStatex4
import Derived.Test.YtdepiibcopbjlaaPFnExactFitsStatex5
import Derived.Test.YtdepiibcopbjlaaPFnExactFitsStatex7
import Derived.Test.YtdepiibcopbjlaaPFnExactFitsStatex8
namespace Go.Proofs.Ytdepiibcopbjlaa.PFnExactFitsState
open Go.RowKit Go.Proofs.YtdepiibcopbjlaaW.PrintWords Go.Proofs.YtdepiibcopbjlaaW.PrintLast Go.Proofs.YtdepiibcopbjlaaW.PrintMore
attribute [local go_sem] max2_int min2_int max_two min_two max_three min_three max_four min_four   -- for this text's walks alone
set_option linter.unusedVariables false
set_option linter.unusedSimpArgs false

/-! ### laws_FnExactFitsState: function 9 -/
def laws_FnExactFitsState.f (k : Nat) (a0_0 : ByteArray) (a0_1 : ByteArray) (l0_2 : List (List Int)) (l0_3 : List Int) (l0_4 : List (List Int)) (l0_5 : List (List Int)) (a1_0 : ByteArray) (a1_1 : ByteArray) (l1_2 : List Int) (a2_0 : ByteArray) (a2_1 : ByteArray) (a2_2 : ByteArray) : Option (Bool) := (laws_szFrame.f k a0_0 a0_1 l0_2 l0_3 l0_4 l0_5 1048576).bind fun t273 => (if t273 < 0 then (some true) else ((laws_szState.f a1_0 a1_1 l1_2 t273).bind fun t274 => (if t274 < 0 then (some true) else ((laws_szValues.f a2_0 a2_1 a2_2 t274).bind fun t275 => (if t275 < 0 then (some true) else ((laws_toFrame.f k a0_0 a0_1 l0_2 l0_3 l0_4 l0_5).bind fun bt276 => ((laws_toState.f k a1_0 a1_1 l1_2).bind fun bt290 => ((laws_toValues.f a2_0 a2_1 a2_2).bind fun bt295 => ((spec_FitsState.f k bt276.1 bt276.2.1 bt276.2.2.1 bt276.2.2.2.1 bt276.2.2.2.2.1 bt276.2.2.2.2.2 bt290.1 bt290.2.1 bt290.2.2 bt295.1 bt295.2.1 bt295.2.2).bind fun t298 => ((laws_toFrame.f k a0_0 a0_1 l0_2 l0_3 l0_4 l0_5).bind fun bt299 => ((laws_toState.f k a1_0 a1_1 l1_2).bind fun bt314 => ((laws_toValues.f a2_0 a2_1 a2_2).bind fun bt320 => ((impl_FitsState.f k bt299.1 bt299.2.1 bt299.2.2.1 bt299.2.2.2.1 bt299.2.2.2.2.1 bt299.2.2.2.2.2 bt314.1 bt314.2.1 bt314.2.2 bt320.1 bt320.2.1 bt320.2.2).bind fun t323 => (if (t323 != t298) = true then (some false) else ((laws_toFrame.f k a0_0 a0_1 l0_2 l0_3 l0_4 l0_5).bind fun bt324 => ((laws_eqFrame.f k bt299.1 bt299.2.1 bt299.2.2.1 bt299.2.2.2.1 bt299.2.2.2.2.1 bt299.2.2.2.2.2 bt324.1 bt324.2.1 bt324.2.2.1 bt324.2.2.2.1 bt324.2.2.2.2.1 bt324.2.2.2.2.2).bind fun t338 => (if t338 = true then ((laws_toState.f k a1_0 a1_1 l1_2).bind fun bt339 => ((laws_eqState.f k bt314.1 bt314.2.1 bt314.2.2 bt339.1 bt339.2.1 bt339.2.2).bind fun t344 => (if t344 = true then (some true) else (some false)))) else (some false))))))))))))))))))
theorem laws_FnExactFitsState.mono : ∀ a0 a1 a2 a3 a4 a5 a6 a7 a8 a9 a10 a11 k, LeO (laws_FnExactFitsState.f k a0 a1 a2 a3 a4 a5 a6 a7 a8 a9 a10 a11) (laws_FnExactFitsState.f (k + 1) a0 a1 a2 a3 a4 a5 a6 a7 a8 a9 a10 a11) := by
  intro a0 a1 a2 a3 a4 a5 a6 a7 a8 a9 a10 a11 k
  unfold laws_FnExactFitsState.f
  repeat' first
      | (with_reducible exact impl_FitsState.mono _ _ _ _ _ _ _ _ _ _ _ _ _)
      | (with_reducible exact laws_eqFrame.mono _ _ _ _ _ _ _ _ _ _ _ _ _)
      | (with_reducible exact laws_eqState.mono _ _ _ _ _ _ _)
      | (with_reducible exact laws_szFrame.mono _ _ _ _ _ _ _ _)
      | (with_reducible exact laws_toFrame.mono _ _ _ _ _ _ _)
      | (with_reducible exact laws_toState.mono _ _ _ _)
      | (with_reducible exact spec_FitsState.mono _ _ _ _ _ _ _ _ _ _ _ _ _)
      | (with_reducible exact LeO.refl _)
      | (with_reducible exact LeO.none _)
      | (with_reducible refine LeO.ite ?_ ?_)
      | (with_reducible refine LeO.bind ?_ (fun _ => ?_))
      | exact impl_FitsState.mono _ _ _ _ _ _ _ _ _ _ _ _ _
      | exact laws_eqFrame.mono _ _ _ _ _ _ _ _ _ _ _ _ _
      | exact laws_eqState.mono _ _ _ _ _ _ _
      | exact laws_szFrame.mono _ _ _ _ _ _ _ _
      | exact laws_toFrame.mono _ _ _ _ _ _ _
      | exact laws_toState.mono _ _ _ _
      | exact spec_FitsState.mono _ _ _ _ _ _ _ _ _ _ _ _ _
      | exact LeO.none _
      | refine LeO.ite ?_ ?_
      | refine LeO.bind ?_ (fun _ => ?_)
def laws_FnExactFitsState.T11 : Bool × List (List Nat × List Nat) := (true, [([], []), ([0], [0]), ([], []), ([2, 1], [2]), ([], []), ([4, 3], [4]), ([1, 3, 5, 5], [1, 3, 5]), ([6, 6, 0, 1, 2, 3, 4, 5, 6], [6])])
def laws_FnExactFitsState.B11 : List Nat := [0, 1, 0, 7, 0, 31, 63, 127]
theorem laws_FnExactFitsState.tab11 : rtab .any (opsOf Try.f9 11) = laws_FnExactFitsState.T11 := by kernel_rfl
theorem laws_FnExactFitsState.bits11 : waitsOk laws_FnExactFitsState.T11.2 laws_FnExactFitsState.B11 = true := by kernel_rfl
set_option maxHeartbeats 8000000 in
set_option maxRecDepth 100000 in
theorem laws_FnExactFitsState.calls (k : Nat) (a0_0 : ByteArray) (a0_1 : ByteArray) (A0_2 : Option Addr) (c0_2 : Nat) (l0_2 : List (List Int)) (A0_3 : Option Addr) (c0_3 : Nat) (l0_3 : List Int) (A0_4 : Option Addr) (c0_4 : Nat) (l0_4 : List (List Int)) (A0_5 : Option Addr) (c0_5 : Nat) (l0_5 : List (List Int)) (a1_0 : ByteArray) (a1_1 : ByteArray) (A1_2 : Option Addr) (c1_2 : Nat) (l1_2 : List Int) (a2_0 : ByteArray) (a2_1 : ByteArray) (a2_2 : ByteArray) (r : Bool) (w : World) (hr0_2 : Kd.C (Kd.slice 3 (Kd.int .i64)) w A0_2 l0_2.length l0_2) (hc0_2 : l0_2.length ≤ c0_2) (hr0_3 : Kd.C (Kd.int .i64) w A0_3 l0_3.length l0_3) (hc0_3 : l0_3.length ≤ c0_3) (hr0_4 : Kd.C (Kd.slice 3 (Kd.int .i64)) w A0_4 l0_4.length l0_4) (hc0_4 : l0_4.length ≤ c0_4) (hr0_5 : Kd.C (Kd.slice 3 (Kd.int .i64)) w A0_5 l0_5.length l0_5) (hc0_5 : l0_5.length ≤ c0_5) (hr1_2 : Kd.C (Kd.int .i64) w A1_2 l1_2.length l1_2) (hc1_2 : l1_2.length ≤ c1_2) (h : laws_FnExactFitsState.f k a0_0 a0_1 l0_2 l0_3 l0_4 l0_5 a1_0 a1_1 l1_2 a2_0 a2_1 a2_2 = some r) :
    Calls Try.prog 9 #[.agg #[.string a0_0, .string a0_1, .slice A0_2 l0_2.length c0_2, .slice A0_3 l0_3.length c0_3, .slice A0_4 l0_4.length c0_4, .slice A0_5 l0_5.length c0_5], .agg #[.string a1_0, .string a1_1, .slice A1_2 l1_2.length c1_2], .agg #[.string a2_0, .string a2_1, .string a2_2]] w fun e w' => e = .returned (.bool r) ∧ Below w.heap.size w w' := by
  have hu68 := Try.underlying68
  have hu40 := Try.underlying40
  have hu52 := Try.underlying52
  have hu75 := Try.underlying75
  have hu46 := Try.underlying46
  have HR0_2 := Aside0.mk hr0_2
  have HC0_2 := Aside0.mk hc0_2
  clear hr0_2 hc0_2
  have HR0_3 := Aside0.mk hr0_3
  have HC0_3 := Aside0.mk hc0_3
  clear hr0_3 hc0_3
  have HR0_4 := Aside0.mk hr0_4
  have HC0_4 := Aside0.mk hc0_4
  clear hr0_4 hc0_4
  have HR0_5 := Aside0.mk hr0_5
  have HC0_5 := Aside0.mk hc0_5
  clear hr0_5 hc0_5
  have HR1_2 := Aside0.mk hr1_2
  have HC1_2 := Aside0.mk hc1_2
  clear hr1_2 hc1_2
  have HB := Aside0.mk (Below.refl w.heap.size w)
  have H : ((laws_szFrame.f k a0_0 a0_1 l0_2 l0_3 l0_4 l0_5 1048576).bind fun t273 => (if t273 < 0 then (some true) else ((laws_szState.f a1_0 a1_1 l1_2 t273).bind fun t274 => (if t274 < 0 then (some true) else ((laws_szValues.f a2_0 a2_1 a2_2 t274).bind fun t275 => (if t275 < 0 then (some true) else ((laws_toFrame.f k a0_0 a0_1 l0_2 l0_3 l0_4 l0_5).bind fun bt276 => ((laws_toState.f k a1_0 a1_1 l1_2).bind fun bt290 => ((laws_toValues.f a2_0 a2_1 a2_2).bind fun bt295 => ((spec_FitsState.f k bt276.1 bt276.2.1 bt276.2.2.1 bt276.2.2.2.1 bt276.2.2.2.2.1 bt276.2.2.2.2.2 bt290.1 bt290.2.1 bt290.2.2 bt295.1 bt295.2.1 bt295.2.2).bind fun t298 => ((laws_toFrame.f k a0_0 a0_1 l0_2 l0_3 l0_4 l0_5).bind fun bt299 => ((laws_toState.f k a1_0 a1_1 l1_2).bind fun bt314 => ((laws_toValues.f a2_0 a2_1 a2_2).bind fun bt320 => ((impl_FitsState.f k bt299.1 bt299.2.1 bt299.2.2.1 bt299.2.2.2.1 bt299.2.2.2.2.1 bt299.2.2.2.2.2 bt314.1 bt314.2.1 bt314.2.2 bt320.1 bt320.2.1 bt320.2.2).bind fun t323 => (if (t323 != t298) = true then (some false) else ((laws_toFrame.f k a0_0 a0_1 l0_2 l0_3 l0_4 l0_5).bind fun bt324 => ((laws_eqFrame.f k bt299.1 bt299.2.1 bt299.2.2.1 bt299.2.2.2.1 bt299.2.2.2.2.1 bt299.2.2.2.2.2 bt324.1 bt324.2.1 bt324.2.2.1 bt324.2.2.2.1 bt324.2.2.2.2.1 bt324.2.2.2.2.2).bind fun t338 => (if t338 = true then ((laws_toState.f k a1_0 a1_1 l1_2).bind fun bt339 => ((laws_eqState.f k bt314.1 bt314.2.1 bt314.2.2 bt339.1 bt339.2.1 bt339.2.2).bind fun t344 => (if t344 = true then (some true) else (some false)))) else (some false))))))))))))))))))) = some r := h
  clear h
  replace H := Option.bind_eq_some_iff.mp H
  obtain ⟨t273, A40, H⟩ := H
  replace H : (if t273 < 0 then (some true) else ((laws_szState.f a1_0 a1_1 l1_2 t273).bind fun t274 => (if t274 < 0 then (some true) else ((laws_szValues.f a2_0 a2_1 a2_2 t274).bind fun t275 => (if t275 < 0 then (some true) else ((laws_toFrame.f k a0_0 a0_1 l0_2 l0_3 l0_4 l0_5).bind fun bt276 => ((laws_toState.f k a1_0 a1_1 l1_2).bind fun bt290 => ((laws_toValues.f a2_0 a2_1 a2_2).bind fun bt295 => ((spec_FitsState.f k bt276.1 bt276.2.1 bt276.2.2.1 bt276.2.2.2.1 bt276.2.2.2.2.1 bt276.2.2.2.2.2 bt290.1 bt290.2.1 bt290.2.2 bt295.1 bt295.2.1 bt295.2.2).bind fun t298 => ((laws_toFrame.f k a0_0 a0_1 l0_2 l0_3 l0_4 l0_5).bind fun bt299 => ((laws_toState.f k a1_0 a1_1 l1_2).bind fun bt314 => ((laws_toValues.f a2_0 a2_1 a2_2).bind fun bt320 => ((impl_FitsState.f k bt299.1 bt299.2.1 bt299.2.2.1 bt299.2.2.2.1 bt299.2.2.2.2.1 bt299.2.2.2.2.2 bt314.1 bt314.2.1 bt314.2.2 bt320.1 bt320.2.1 bt320.2.2).bind fun t323 => (if (t323 != t298) = true then (some false) else ((laws_toFrame.f k a0_0 a0_1 l0_2 l0_3 l0_4 l0_5).bind fun bt324 => ((laws_eqFrame.f k bt299.1 bt299.2.1 bt299.2.2.1 bt299.2.2.2.1 bt299.2.2.2.2.1 bt299.2.2.2.2.2 bt324.1 bt324.2.1 bt324.2.2.1 bt324.2.2.2.1 bt324.2.2.2.2.1 bt324.2.2.2.2.2).bind fun t338 => (if t338 = true then ((laws_toState.f k a1_0 a1_1 l1_2).bind fun bt339 => ((laws_eqState.f k bt314.1 bt314.2.1 bt314.2.2 bt339.1 bt339.2.1 bt339.2.2).bind fun t344 => (if t344 = true then (some true) else (some false)))) else (some false)))))))))))))))))) = some r := H
  have A4 := Aside0.mk A40
  clear A40
  have HC5 := Aside0.mk H
  clear H
  go_enter Try.func9, Try.ntmps9
  go_upto_if 16 with (first | ((with_reducible refine gate_dst (N := 3) rfl ?_); refine box_event ?hg (N := 3) ?hd (cs := #[.string a0_0, .string a0_1, .slice A0_2 l0_2.length c0_2, .slice A0_3 l0_3.length c0_3, .slice A0_4 l0_4.length c0_4, .slice A0_5 l0_5.length c0_5]) (t := 68) ?hr ?_; (case hd => rfl); (case hg => rfl); (case hr => first | (go_simp; done) | (go_simp; rfl)); intro gb270 hg w6 hbox hb; have n0_ := Aside0.mk (below_step (by repeat (first | (with_reducible first | exact HB.out | apply below_alloc | apply pw_below_drewN | apply below_drew1) | exact HB.out)) hb); have n1_ := Aside0.mk (hbox); have n2_ := Aside0.mk ((by rw [hg]; exact (below_size (by repeat (first | (with_reducible first | exact HB.out | apply below_alloc | apply pw_below_drewN | apply below_drew1) | exact HB.out))) : w.heap.size ≤ gb270)); have n3_ := Aside0.mk ((by rw [hg]; exact (below_size (by repeat (first | (with_reducible first | exact HB.out | apply below_alloc | apply pw_below_drewN | apply below_drew1) | exact HB.out))) : w.heap.size ≤ gb270)); clear HB; have HB := n0_; have BK270 := n1_; have GW270 := n2_; have GE270 := n3_; clear n0_ n1_ n2_ n3_; clear hb hbox hg) | ((with_reducible refine gate_dst (N := 4) rfl ?_); refine box_event ?hg (N := 4) ?hd (cs := #[.string a1_0, .string a1_1, .slice A1_2 l1_2.length c1_2]) (t := 40) ?hr ?_; (case hd => rfl); (case hg => rfl); (case hr => first | (go_simp; done) | (go_simp; rfl)); intro gb271 hg w7 hbox hb; have n0_ := Aside0.mk (blk_below (g := gb270) (o := .cells #[.string a0_0, .string a0_1, .slice A0_2 l0_2.length c0_2, .slice A0_3 l0_3.length c0_3, .slice A0_4 l0_4.length c0_4, .slice A0_5 l0_5.length c0_5] 68 (0, 0)) (by (with_reducible repeat (first | refine blk_drewN ?_ _ | refine blk_drew ?_ | refine blk_alloc ?_ _)); exact BK270.out) hb); have n1_ := Aside0.mk (below_step (by repeat (first | (with_reducible first | exact HB.out | apply below_alloc | apply pw_below_drewN | apply below_drew1 | refine below_set ?_ GE270.out) | exact HB.out)) hb); have n2_ := Aside0.mk (hbox); have n3_ := Aside0.mk ((by rw [hg]; exact (below_size (by repeat (first | (with_reducible first | exact HB.out | apply below_alloc | apply pw_below_drewN | apply below_drew1 | refine below_set ?_ GE270.out) | exact HB.out))) : w.heap.size ≤ gb271)); have n4_ := Aside0.mk ((by rw [hg]; exact (below_size (by repeat (first | (with_reducible first | exact HB.out | apply below_alloc | apply pw_below_drewN | apply below_drew1 | refine below_set ?_ GE270.out) | exact HB.out))) : w.heap.size ≤ gb271)); have n5_ := Aside0.mk ((by rw [hg]; exact Nat.ne_of_lt (blk_lt (g := gb270) (o := .cells #[.string a0_0, .string a0_1, .slice A0_2 l0_2.length c0_2, .slice A0_3 l0_3.length c0_3, .slice A0_4 l0_4.length c0_4, .slice A0_5 l0_5.length c0_5] 68 (0, 0)) (by (with_reducible repeat (first | refine blk_drewN ?_ _ | refine blk_drew ?_ | refine blk_alloc ?_ _)); exact BK270.out)) : gb270 ≠ gb271)); have n6_ := Aside0.mk ((by rw [hg]; exact Nat.ne_of_gt (blk_lt (g := gb270) (o := .cells #[.string a0_0, .string a0_1, .slice A0_2 l0_2.length c0_2, .slice A0_3 l0_3.length c0_3, .slice A0_4 l0_4.length c0_4, .slice A0_5 l0_5.length c0_5] 68 (0, 0)) (by (with_reducible repeat (first | refine blk_drewN ?_ _ | refine blk_drew ?_ | refine blk_alloc ?_ _)); exact BK270.out)) : gb271 ≠ gb270)); clear BK270; clear HB; have BK270 := n0_; have HB := n1_; have BK271 := n2_; have GW271 := n3_; have GE271 := n4_; have NB270_271 := n5_; have NB271_270 := n6_; clear n0_ n1_ n2_ n3_ n4_ n5_ n6_; clear hb hbox hg) | ((with_reducible refine gate_dst (N := 5) rfl ?_); refine box_event ?hg (N := 5) ?hd (cs := #[.string a2_0, .string a2_1, .string a2_2]) (t := 52) ?hr ?_; (case hd => rfl); (case hg => rfl); (case hr => first | (go_simp; done) | (go_simp; rfl)); intro gb272 hg w8 hbox hb; have n0_ := Aside0.mk (blk_below (g := gb270) (o := .cells #[.string a0_0, .string a0_1, .slice A0_2 l0_2.length c0_2, .slice A0_3 l0_3.length c0_3, .slice A0_4 l0_4.length c0_4, .slice A0_5 l0_5.length c0_5] 68 (0, 0)) (by (with_reducible repeat (first | refine blk_drewN ?_ _ | refine blk_drew ?_ | refine blk_alloc ?_ _)); exact BK270.out) hb); have n1_ := Aside0.mk (blk_below (g := gb271) (o := .cells #[.string a1_0, .string a1_1, .slice A1_2 l1_2.length c1_2] 40 (0, 0)) (by (with_reducible repeat (first | refine blk_drewN ?_ _ | refine blk_drew ?_ | refine blk_alloc ?_ _)); exact BK271.out) hb); have n2_ := Aside0.mk (below_step (by repeat (first | (with_reducible first | exact HB.out | apply below_alloc | apply pw_below_drewN | apply below_drew1 | refine below_set ?_ GE270.out | refine below_set ?_ GE271.out) | exact HB.out)) hb); have n3_ := Aside0.mk (hbox); have n4_ := Aside0.mk ((by rw [hg]; exact (below_size (by repeat (first | (with_reducible first | exact HB.out | apply below_alloc | apply pw_below_drewN | apply below_drew1 | refine below_set ?_ GE270.out | refine below_set ?_ GE271.out) | exact HB.out))) : w.heap.size ≤ gb272)); have n5_ := Aside0.mk ((by rw [hg]; exact (below_size (by repeat (first | (with_reducible first | exact HB.out | apply below_alloc | apply pw_below_drewN | apply below_drew1 | refine below_set ?_ GE270.out | refine below_set ?_ GE271.out) | exact HB.out))) : w.heap.size ≤ gb272)); have n6_ := Aside0.mk ((by rw [hg]; exact Nat.ne_of_lt (blk_lt (g := gb270) (o := .cells #[.string a0_0, .string a0_1, .slice A0_2 l0_2.length c0_2, .slice A0_3 l0_3.length c0_3, .slice A0_4 l0_4.length c0_4, .slice A0_5 l0_5.length c0_5] 68 (0, 0)) (by (with_reducible repeat (first | refine blk_drewN ?_ _ | refine blk_drew ?_ | refine blk_alloc ?_ _)); exact BK270.out)) : gb270 ≠ gb272)); have n7_ := Aside0.mk ((by rw [hg]; exact Nat.ne_of_gt (blk_lt (g := gb270) (o := .cells #[.string a0_0, .string a0_1, .slice A0_2 l0_2.length c0_2, .slice A0_3 l0_3.length c0_3, .slice A0_4 l0_4.length c0_4, .slice A0_5 l0_5.length c0_5] 68 (0, 0)) (by (with_reducible repeat (first | refine blk_drewN ?_ _ | refine blk_drew ?_ | refine blk_alloc ?_ _)); exact BK270.out)) : gb272 ≠ gb270)); have n8_ := Aside0.mk ((by rw [hg]; exact Nat.ne_of_lt (blk_lt (g := gb271) (o := .cells #[.string a1_0, .string a1_1, .slice A1_2 l1_2.length c1_2] 40 (0, 0)) (by (with_reducible repeat (first | refine blk_drewN ?_ _ | refine blk_drew ?_ | refine blk_alloc ?_ _)); exact BK271.out)) : gb271 ≠ gb272)); have n9_ := Aside0.mk ((by rw [hg]; exact Nat.ne_of_gt (blk_lt (g := gb271) (o := .cells #[.string a1_0, .string a1_1, .slice A1_2 l1_2.length c1_2] 40 (0, 0)) (by (with_reducible repeat (first | refine blk_drewN ?_ _ | refine blk_drew ?_ | refine blk_alloc ?_ _)); exact BK271.out)) : gb272 ≠ gb271)); clear BK270; clear BK271; clear HB; have BK270 := n0_; have BK271 := n1_; have HB := n2_; have BK272 := n3_; have GW272 := n4_; have GE272 := n5_; have NB270_272 := n6_; have NB272_270 := n7_; have NB271_272 := n8_; have NB272_271 := n9_; clear n0_ n1_ n2_ n3_ n4_ n5_ n6_ n7_ n8_ n9_; clear hb hbox hg; have hnb9 := NB270_271.out; have hnc9 := NB271_270.out; have hnb10 := NB270_272.out; have hnc10 := NB272_270.out; have hcz11_0 : w8.cell? ⟨gb270, 0, none⟩ = some (.string a0_0) := (blk_cell BK270.out 0).trans rfl; have hcz11_1 : w8.cell? ⟨gb270, 1, none⟩ = some (.string a0_1) := (blk_cell BK270.out 1).trans rfl; have hcz11_2 : w8.cell? ⟨gb270, 2, none⟩ = some (.slice A0_2 l0_2.length c0_2) := (blk_cell BK270.out 2).trans rfl; have hcz11_3 : w8.cell? ⟨gb270, 3, none⟩ = some (.slice A0_3 l0_3.length c0_3) := (blk_cell BK270.out 3).trans rfl; have hcz11_4 : w8.cell? ⟨gb270, 4, none⟩ = some (.slice A0_4 l0_4.length c0_4) := (blk_cell BK270.out 4).trans rfl; have hcz11_5 : w8.cell? ⟨gb270, 5, none⟩ = some (.slice A0_5 l0_5.length c0_5) := (blk_cell BK270.out 5).trans rfl; have hfz11_0 := blk_frozen BK270.out 0; have hfz11_1 := blk_frozen BK270.out 1; have hfz11_2 := blk_frozen BK270.out 2; have hfz11_3 := blk_frozen BK270.out 3; have hfz11_4 := blk_frozen BK270.out 4; have hfz11_5 := blk_frozen BK270.out 5) | ((with_reducible refine gate_callee (f := 35) rfl ?_); refine goesL_ (some 14) rfl rfl Try.func35 (by kernel_rfl) rfl #[.agg #[.string a0_0, .string a0_1, .slice A0_2 l0_2.length c0_2, .slice A0_3 l0_3.length c0_3, .slice A0_4 l0_4.length c0_4, .slice A0_5 l0_5.length c0_5], .int .i64 1048576] rfl (by (try simp only [List.map_toArray, List.map_cons, List.map_nil]); first | done | rfl | (simp only [List.length_drop, List.length_take]; rfl)) ?_; (with_reducible refine (laws_szFrame.calls k a0_0 a0_1 _ _ l0_2 _ _ l0_3 _ _ l0_4 _ _ l0_5 1048576 t273 _ ?side1 ?side2 ?side3 ?side4 ?side5 ?side6 ?side7 ?side8 A4.out).mono ?_); (case side1 => repeat (first | exact (Kd.C_below HR0_2.out HB.out) | (with_reducible refine Kd.C_alloc ?_ _) | (with_reducible refine Kd.C_drewN ?_ _) | (with_reducible refine Kd.C_drew ?_))); (case side2 => exact HC0_2.out); (case side3 => repeat (first | exact (Kd.C_below HR0_3.out HB.out) | (with_reducible refine Kd.C_alloc ?_ _) | (with_reducible refine Kd.C_drewN ?_ _) | (with_reducible refine Kd.C_drew ?_))); (case side4 => exact HC0_3.out); (case side5 => repeat (first | exact (Kd.C_below HR0_4.out HB.out) | (with_reducible refine Kd.C_alloc ?_ _) | (with_reducible refine Kd.C_drewN ?_ _) | (with_reducible refine Kd.C_drew ?_))); (case side6 => exact HC0_4.out); (case side7 => repeat (first | exact (Kd.C_below HR0_5.out HB.out) | (with_reducible refine Kd.C_alloc ?_ _) | (with_reducible refine Kd.C_drewN ?_ _) | (with_reducible refine Kd.C_drew ?_))); (case side8 => exact HC0_5.out); rintro e w12 ⟨rfl, hb⟩; refine ⟨_, rfl, ?_⟩; have n0_ := Aside0.mk (blk_below (g := gb270) (o := .cells #[.string a0_0, .string a0_1, .slice A0_2 l0_2.length c0_2, .slice A0_3 l0_3.length c0_3, .slice A0_4 l0_4.length c0_4, .slice A0_5 l0_5.length c0_5] 68 (0, 0)) (by (with_reducible repeat (first | refine blk_drewN ?_ _ | refine blk_drew ?_ | refine blk_alloc ?_ _)); exact BK270.out) hb); have n1_ := Aside0.mk (blk_below (g := gb271) (o := .cells #[.string a1_0, .string a1_1, .slice A1_2 l1_2.length c1_2] 40 (0, 0)) (by (with_reducible repeat (first | refine blk_drewN ?_ _ | refine blk_drew ?_ | refine blk_alloc ?_ _)); exact BK271.out) hb); have n2_ := Aside0.mk (blk_below (g := gb272) (o := .cells #[.string a2_0, .string a2_1, .string a2_2] 52 (0, 0)) (by (with_reducible repeat (first | refine blk_drewN ?_ _ | refine blk_drew ?_ | refine blk_alloc ?_ _)); exact BK272.out) hb); have n3_ := Aside0.mk (below_step (by repeat (first | (with_reducible first | exact HB.out | apply below_alloc | apply pw_below_drewN | apply below_drew1 | refine below_set ?_ GE270.out | refine below_set ?_ GE271.out | refine below_set ?_ GE272.out) | exact HB.out)) hb); clear BK270; clear BK271; clear BK272; clear HB; have BK270 := n0_; have BK271 := n1_; have BK272 := n2_; have HB := n3_; clear n0_ n1_ n2_ n3_; (try clear hb); (try clear hb2); (try clear hk); (try clear hi)))
  (try simp only [Act.put, List.setIfInBounds_toArray, List.set_cons_zero, List.set_cons_succ])
  have H := HC5.out
  clear HC5
  by_cases c13 : t273 < 0
  · rw [if_pos c13] at H
    have c13b0 : decide (t273 < 0) = true := decide_eq_true c13
    clear c13
    (first | rw [c13b0] | (simp only [i64_w, i32_w]; rw [c13b0]) | rw [c13b2] | rw [c13b1] | skip)
    (try simp only [Bool.not_true, Bool.not_false])
    obtain rfl := Option.some.inj H
    go_wp2
    go_ret
    exact ⟨by first | rfl | (simp [errW_none, errW_some] <;> rfl) | (simp [*, errW_none, errW_some] <;> rfl), by repeat (first | (with_reducible first | exact HB.out | apply below_alloc | apply pw_below_drewN | apply below_drew1 | refine below_set ?_ GE270.out | refine below_set ?_ GE271.out | refine below_set ?_ GE272.out) | exact HB.out)⟩
  · rw [if_neg c13] at H
    have c13b0 : decide (t273 < 0) = false := decide_eq_false c13
    clear c13
    (first | rw [c13b0] | (simp only [i64_w, i32_w]; rw [c13b0]) | rw [c13b2] | rw [c13b1] | skip)
    (try simp only [Bool.not_true, Bool.not_false])
    replace H := Option.bind_eq_some_iff.mp H
    obtain ⟨t274, A140, H⟩ := H
    replace H : (if t274 < 0 then (some true) else ((laws_szValues.f a2_0 a2_1 a2_2 t274).bind fun t275 => (if t275 < 0 then (some true) else ((laws_toFrame.f k a0_0 a0_1 l0_2 l0_3 l0_4 l0_5).bind fun bt276 => ((laws_toState.f k a1_0 a1_1 l1_2).bind fun bt290 => ((laws_toValues.f a2_0 a2_1 a2_2).bind fun bt295 => ((spec_FitsState.f k bt276.1 bt276.2.1 bt276.2.2.1 bt276.2.2.2.1 bt276.2.2.2.2.1 bt276.2.2.2.2.2 bt290.1 bt290.2.1 bt290.2.2 bt295.1 bt295.2.1 bt295.2.2).bind fun t298 => ((laws_toFrame.f k a0_0 a0_1 l0_2 l0_3 l0_4 l0_5).bind fun bt299 => ((laws_toState.f k a1_0 a1_1 l1_2).bind fun bt314 => ((laws_toValues.f a2_0 a2_1 a2_2).bind fun bt320 => ((impl_FitsState.f k bt299.1 bt299.2.1 bt299.2.2.1 bt299.2.2.2.1 bt299.2.2.2.2.1 bt299.2.2.2.2.2 bt314.1 bt314.2.1 bt314.2.2 bt320.1 bt320.2.1 bt320.2.2).bind fun t323 => (if (t323 != t298) = true then (some false) else ((laws_toFrame.f k a0_0 a0_1 l0_2 l0_3 l0_4 l0_5).bind fun bt324 => ((laws_eqFrame.f k bt299.1 bt299.2.1 bt299.2.2.1 bt299.2.2.2.1 bt299.2.2.2.2.1 bt299.2.2.2.2.2 bt324.1 bt324.2.1 bt324.2.2.1 bt324.2.2.2.1 bt324.2.2.2.2.1 bt324.2.2.2.2.2).bind fun t338 => (if t338 = true then ((laws_toState.f k a1_0 a1_1 l1_2).bind fun bt339 => ((laws_eqState.f k bt314.1 bt314.2.1 bt314.2.2 bt339.1 bt339.2.1 bt339.2.2).bind fun t344 => (if t344 = true then (some true) else (some false)))) else (some false)))))))))))))))) = some r := H
    have A14 := Aside0.mk A140
    clear A140
    have HC15 := Aside0.mk H
    clear H
    have hnb16 := NB271_270.out
    have hnc16 := NB270_271.out
    have hnb17 := NB271_272.out
    have hnc17 := NB272_271.out
    have hcz18_0 : w12.cell? ⟨gb271, 0, none⟩ = some (.string a1_0) := (blk_cell BK271.out 0).trans rfl
    have hcz18_1 : w12.cell? ⟨gb271, 1, none⟩ = some (.string a1_1) := (blk_cell BK271.out 1).trans rfl
    have hcz18_2 : w12.cell? ⟨gb271, 2, none⟩ = some (.slice A1_2 l1_2.length c1_2) := (blk_cell BK271.out 2).trans rfl
    have hfz18_0 := blk_frozen BK271.out 0
    have hfz18_1 := blk_frozen BK271.out 1
    have hfz18_2 := blk_frozen BK271.out 2
    go_upto_if 21 with (first | ((with_reducible refine gate_callee (f := 23) rfl ?_); refine goesL_ (some 19) rfl rfl Try.func23 (by kernel_rfl) rfl #[.agg #[.string a1_0, .string a1_1, .slice A1_2 l1_2.length c1_2], .int .i64 t273] rfl (by (try simp only [List.map_toArray, List.map_cons, List.map_nil]); first | done | rfl | (simp only [List.length_drop, List.length_take]; rfl)) ?_; (with_reducible refine (laws_szState.calls a1_0 a1_1 _ _ l1_2 t273 t274 _ ?side1 ?side2 A14.out).mono ?_); (case side1 => repeat (first | exact (Kd.C_below HR1_2.out HB.out) | (with_reducible refine Kd.C_alloc ?_ _) | (with_reducible refine Kd.C_drewN ?_ _) | (with_reducible refine Kd.C_drew ?_))); (case side2 => exact HC1_2.out); rintro e w19 ⟨rfl, hb⟩; refine ⟨_, rfl, ?_⟩; have n0_ := Aside0.mk (blk_below (g := gb270) (o := .cells #[.string a0_0, .string a0_1, .slice A0_2 l0_2.length c0_2, .slice A0_3 l0_3.length c0_3, .slice A0_4 l0_4.length c0_4, .slice A0_5 l0_5.length c0_5] 68 (0, 0)) (by (with_reducible repeat (first | refine blk_drewN ?_ _ | refine blk_drew ?_ | refine blk_alloc ?_ _)); exact BK270.out) hb); have n1_ := Aside0.mk (blk_below (g := gb271) (o := .cells #[.string a1_0, .string a1_1, .slice A1_2 l1_2.length c1_2] 40 (0, 0)) (by (with_reducible repeat (first | refine blk_drewN ?_ _ | refine blk_drew ?_ | refine blk_alloc ?_ _)); exact BK271.out) hb); have n2_ := Aside0.mk (blk_below (g := gb272) (o := .cells #[.string a2_0, .string a2_1, .string a2_2] 52 (0, 0)) (by (with_reducible repeat (first | refine blk_drewN ?_ _ | refine blk_drew ?_ | refine blk_alloc ?_ _)); exact BK272.out) hb); have n3_ := Aside0.mk (below_step (by repeat (first | (with_reducible first | exact HB.out | apply below_alloc | apply pw_below_drewN | apply below_drew1 | refine below_set ?_ GE270.out | refine below_set ?_ GE271.out | refine below_set ?_ GE272.out) | exact HB.out)) hb); clear BK270; clear BK271; clear BK272; clear HB; have BK270 := n0_; have BK271 := n1_; have BK272 := n2_; have HB := n3_; clear n0_ n1_ n2_ n3_; (try clear hb); (try clear hb2); (try clear hk); (try clear hi)))
    (try simp only [Act.put, List.setIfInBounds_toArray, List.set_cons_zero, List.set_cons_succ])
    have H := HC15.out
    clear HC15
    by_cases c20 : t274 < 0
    · rw [if_pos c20] at H
      have c20b0 : decide (t274 < 0) = true := decide_eq_true c20
      clear c20
      (first | rw [c20b0] | (simp only [i64_w, i32_w]; rw [c20b0]) | rw [c20b2] | rw [c20b1] | skip)
      (try simp only [Bool.not_true, Bool.not_false])
      obtain rfl := Option.some.inj H
      go_wp2
      go_ret
      exact ⟨by first | rfl | (simp [errW_none, errW_some] <;> rfl) | (simp [*, errW_none, errW_some] <;> rfl), by repeat (first | (with_reducible first | exact HB.out | apply below_alloc | apply pw_below_drewN | apply below_drew1 | refine below_set ?_ GE270.out | refine below_set ?_ GE271.out | refine below_set ?_ GE272.out) | exact HB.out)⟩
    · rw [if_neg c20] at H
      have c20b0 : decide (t274 < 0) = false := decide_eq_false c20
      clear c20
      (first | rw [c20b0] | (simp only [i64_w, i32_w]; rw [c20b0]) | rw [c20b2] | rw [c20b1] | skip)
      (try simp only [Bool.not_true, Bool.not_false])
      replace H := Option.bind_eq_some_iff.mp H
      obtain ⟨t275, A210, H⟩ := H
      replace H : (if t275 < 0 then (some true) else ((laws_toFrame.f k a0_0 a0_1 l0_2 l0_3 l0_4 l0_5).bind fun bt276 => ((laws_toState.f k a1_0 a1_1 l1_2).bind fun bt290 => ((laws_toValues.f a2_0 a2_1 a2_2).bind fun bt295 => ((spec_FitsState.f k bt276.1 bt276.2.1 bt276.2.2.1 bt276.2.2.2.1 bt276.2.2.2.2.1 bt276.2.2.2.2.2 bt290.1 bt290.2.1 bt290.2.2 bt295.1 bt295.2.1 bt295.2.2).bind fun t298 => ((laws_toFrame.f k a0_0 a0_1 l0_2 l0_3 l0_4 l0_5).bind fun bt299 => ((laws_toState.f k a1_0 a1_1 l1_2).bind fun bt314 => ((laws_toValues.f a2_0 a2_1 a2_2).bind fun bt320 => ((impl_FitsState.f k bt299.1 bt299.2.1 bt299.2.2.1 bt299.2.2.2.1 bt299.2.2.2.2.1 bt299.2.2.2.2.2 bt314.1 bt314.2.1 bt314.2.2 bt320.1 bt320.2.1 bt320.2.2).bind fun t323 => (if (t323 != t298) = true then (some false) else ((laws_toFrame.f k a0_0 a0_1 l0_2 l0_3 l0_4 l0_5).bind fun bt324 => ((laws_eqFrame.f k bt299.1 bt299.2.1 bt299.2.2.1 bt299.2.2.2.1 bt299.2.2.2.2.1 bt299.2.2.2.2.2 bt324.1 bt324.2.1 bt324.2.2.1 bt324.2.2.2.1 bt324.2.2.2.2.1 bt324.2.2.2.2.2).bind fun t338 => (if t338 = true then ((laws_toState.f k a1_0 a1_1 l1_2).bind fun bt339 => ((laws_eqState.f k bt314.1 bt314.2.1 bt314.2.2 bt339.1 bt339.2.1 bt339.2.2).bind fun t344 => (if t344 = true then (some true) else (some false)))) else (some false)))))))))))))) = some r := H
      have A21 := Aside0.mk A210
      clear A210
      have HC22 := Aside0.mk H
      clear H
      have hnb23 := NB272_270.out
      have hnc23 := NB270_272.out
      have hnb24 := NB272_271.out
      have hnc24 := NB271_272.out
      have hcz25_0 : w19.cell? ⟨gb272, 0, none⟩ = some (.string a2_0) := (blk_cell BK272.out 0).trans rfl
      have hcz25_1 : w19.cell? ⟨gb272, 1, none⟩ = some (.string a2_1) := (blk_cell BK272.out 1).trans rfl
      have hcz25_2 : w19.cell? ⟨gb272, 2, none⟩ = some (.string a2_2) := (blk_cell BK272.out 2).trans rfl
      have hfz25_0 := blk_frozen BK272.out 0
      have hfz25_1 := blk_frozen BK272.out 1
      have hfz25_2 := blk_frozen BK272.out 2
      go_upto_if 26 with (first | ((with_reducible refine gate_callee (f := 36) rfl ?_); refine goesL_ (some 24) rfl rfl Try.func36 (by kernel_rfl) rfl #[.agg #[.string a2_0, .string a2_1, .string a2_2], .int .i64 t274] rfl (by (try simp only [List.map_toArray, List.map_cons, List.map_nil]); first | done | rfl | (simp only [List.length_drop, List.length_take]; rfl)) ?_; (with_reducible refine (laws_szValues.calls a2_0 a2_1 a2_2 t274 t275 _ A21.out).mono ?_); rintro e w26 ⟨rfl, hb⟩; refine ⟨_, rfl, ?_⟩; have n0_ := Aside0.mk (blk_below (g := gb270) (o := .cells #[.string a0_0, .string a0_1, .slice A0_2 l0_2.length c0_2, .slice A0_3 l0_3.length c0_3, .slice A0_4 l0_4.length c0_4, .slice A0_5 l0_5.length c0_5] 68 (0, 0)) (by (with_reducible repeat (first | refine blk_drewN ?_ _ | refine blk_drew ?_ | refine blk_alloc ?_ _)); exact BK270.out) hb); have n1_ := Aside0.mk (blk_below (g := gb271) (o := .cells #[.string a1_0, .string a1_1, .slice A1_2 l1_2.length c1_2] 40 (0, 0)) (by (with_reducible repeat (first | refine blk_drewN ?_ _ | refine blk_drew ?_ | refine blk_alloc ?_ _)); exact BK271.out) hb); have n2_ := Aside0.mk (blk_below (g := gb272) (o := .cells #[.string a2_0, .string a2_1, .string a2_2] 52 (0, 0)) (by (with_reducible repeat (first | refine blk_drewN ?_ _ | refine blk_drew ?_ | refine blk_alloc ?_ _)); exact BK272.out) hb); have n3_ := Aside0.mk (below_step (by repeat (first | (with_reducible first | exact HB.out | apply below_alloc | apply pw_below_drewN | apply below_drew1 | refine below_set ?_ GE270.out | refine below_set ?_ GE271.out | refine below_set ?_ GE272.out) | exact HB.out)) hb); clear BK270; clear BK271; clear BK272; clear HB; have BK270 := n0_; have BK271 := n1_; have BK272 := n2_; have HB := n3_; clear n0_ n1_ n2_ n3_; (try clear hb); (try clear hb2); (try clear hk); (try clear hi)))
      (try simp only [Act.put, List.setIfInBounds_toArray, List.set_cons_zero, List.set_cons_succ])
      have H := HC22.out
      clear HC22
      by_cases c27 : t275 < 0
      · rw [if_pos c27] at H
        have c27b0 : decide (t275 < 0) = true := decide_eq_true c27
        clear c27
        (first | rw [c27b0] | (simp only [i64_w, i32_w]; rw [c27b0]) | rw [c27b2] | rw [c27b1] | skip)
        (try simp only [Bool.not_true, Bool.not_false])
        obtain rfl := Option.some.inj H
        go_wp2
        go_ret
        exact ⟨by first | rfl | (simp [errW_none, errW_some] <;> rfl) | (simp [*, errW_none, errW_some] <;> rfl), by repeat (first | (with_reducible first | exact HB.out | apply below_alloc | apply pw_below_drewN | apply below_drew1 | refine below_set ?_ GE270.out | refine below_set ?_ GE271.out | refine below_set ?_ GE272.out) | exact HB.out)⟩
      · rw [if_neg c27] at H
        have c27b0 : decide (t275 < 0) = false := decide_eq_false c27
        clear c27
        (first | rw [c27b0] | (simp only [i64_w, i32_w]; rw [c27b0]) | rw [c27b2] | rw [c27b1] | skip)
        (try simp only [Bool.not_true, Bool.not_false])
        replace H := Option.bind_eq_some_iff.mp H
        obtain ⟨⟨t276, t277, t278, t281, t284, t287⟩, A280, H⟩ := H
        replace H : ((laws_toState.f k a1_0 a1_1 l1_2).bind fun bt290 => ((laws_toValues.f a2_0 a2_1 a2_2).bind fun bt295 => ((spec_FitsState.f k t276 t277 t278 t281 t284 t287 bt290.1 bt290.2.1 bt290.2.2 bt295.1 bt295.2.1 bt295.2.2).bind fun t298 => ((laws_toFrame.f k a0_0 a0_1 l0_2 l0_3 l0_4 l0_5).bind fun bt299 => ((laws_toState.f k a1_0 a1_1 l1_2).bind fun bt314 => ((laws_toValues.f a2_0 a2_1 a2_2).bind fun bt320 => ((impl_FitsState.f k bt299.1 bt299.2.1 bt299.2.2.1 bt299.2.2.2.1 bt299.2.2.2.2.1 bt299.2.2.2.2.2 bt314.1 bt314.2.1 bt314.2.2 bt320.1 bt320.2.1 bt320.2.2).bind fun t323 => (if (t323 != t298) = true then (some false) else ((laws_toFrame.f k a0_0 a0_1 l0_2 l0_3 l0_4 l0_5).bind fun bt324 => ((laws_eqFrame.f k bt299.1 bt299.2.1 bt299.2.2.1 bt299.2.2.2.1 bt299.2.2.2.2.1 bt299.2.2.2.2.2 bt324.1 bt324.2.1 bt324.2.2.1 bt324.2.2.2.1 bt324.2.2.2.2.1 bt324.2.2.2.2.2).bind fun t338 => (if t338 = true then ((laws_toState.f k a1_0 a1_1 l1_2).bind fun bt339 => ((laws_eqState.f k bt314.1 bt314.2.1 bt314.2.2 bt339.1 bt339.2.1 bt339.2.2).bind fun t344 => (if t344 = true then (some true) else (some false)))) else (some false)))))))))))) = some r := H
        have A28 := Aside0.mk A280
        clear A280
        replace H := Option.bind_eq_some_iff.mp H
        obtain ⟨⟨t290, t291, t292⟩, A290, H⟩ := H
        replace H : ((laws_toValues.f a2_0 a2_1 a2_2).bind fun bt295 => ((spec_FitsState.f k t276 t277 t278 t281 t284 t287 t290 t291 t292 bt295.1 bt295.2.1 bt295.2.2).bind fun t298 => ((laws_toFrame.f k a0_0 a0_1 l0_2 l0_3 l0_4 l0_5).bind fun bt299 => ((laws_toState.f k a1_0 a1_1 l1_2).bind fun bt314 => ((laws_toValues.f a2_0 a2_1 a2_2).bind fun bt320 => ((impl_FitsState.f k bt299.1 bt299.2.1 bt299.2.2.1 bt299.2.2.2.1 bt299.2.2.2.2.1 bt299.2.2.2.2.2 bt314.1 bt314.2.1 bt314.2.2 bt320.1 bt320.2.1 bt320.2.2).bind fun t323 => (if (t323 != t298) = true then (some false) else ((laws_toFrame.f k a0_0 a0_1 l0_2 l0_3 l0_4 l0_5).bind fun bt324 => ((laws_eqFrame.f k bt299.1 bt299.2.1 bt299.2.2.1 bt299.2.2.2.1 bt299.2.2.2.2.1 bt299.2.2.2.2.2 bt324.1 bt324.2.1 bt324.2.2.1 bt324.2.2.2.1 bt324.2.2.2.2.1 bt324.2.2.2.2.2).bind fun t338 => (if t338 = true then ((laws_toState.f k a1_0 a1_1 l1_2).bind fun bt339 => ((laws_eqState.f k bt314.1 bt314.2.1 bt314.2.2 bt339.1 bt339.2.1 bt339.2.2).bind fun t344 => (if t344 = true then (some true) else (some false)))) else (some false))))))))))) = some r := H
        have A29 := Aside0.mk A290
        clear A290
        replace H := Option.bind_eq_some_iff.mp H
        obtain ⟨⟨t295, t296, t297⟩, A300, H⟩ := H
        replace H : ((spec_FitsState.f k t276 t277 t278 t281 t284 t287 t290 t291 t292 t295 t296 t297).bind fun t298 => ((laws_toFrame.f k a0_0 a0_1 l0_2 l0_3 l0_4 l0_5).bind fun bt299 => ((laws_toState.f k a1_0 a1_1 l1_2).bind fun bt314 => ((laws_toValues.f a2_0 a2_1 a2_2).bind fun bt320 => ((impl_FitsState.f k bt299.1 bt299.2.1 bt299.2.2.1 bt299.2.2.2.1 bt299.2.2.2.2.1 bt299.2.2.2.2.2 bt314.1 bt314.2.1 bt314.2.2 bt320.1 bt320.2.1 bt320.2.2).bind fun t323 => (if (t323 != t298) = true then (some false) else ((laws_toFrame.f k a0_0 a0_1 l0_2 l0_3 l0_4 l0_5).bind fun bt324 => ((laws_eqFrame.f k bt299.1 bt299.2.1 bt299.2.2.1 bt299.2.2.2.1 bt299.2.2.2.2.1 bt299.2.2.2.2.2 bt324.1 bt324.2.1 bt324.2.2.1 bt324.2.2.2.1 bt324.2.2.2.2.1 bt324.2.2.2.2.2).bind fun t338 => (if t338 = true then ((laws_toState.f k a1_0 a1_1 l1_2).bind fun bt339 => ((laws_eqState.f k bt314.1 bt314.2.1 bt314.2.2 bt339.1 bt339.2.1 bt339.2.2).bind fun t344 => (if t344 = true then (some true) else (some false)))) else (some false)))))))))) = some r := H
        have A30 := Aside0.mk A300
        clear A300
        replace H := Option.bind_eq_some_iff.mp H
        obtain ⟨t298, A310, H⟩ := H
        replace H : ((laws_toFrame.f k a0_0 a0_1 l0_2 l0_3 l0_4 l0_5).bind fun bt299 => ((laws_toState.f k a1_0 a1_1 l1_2).bind fun bt314 => ((laws_toValues.f a2_0 a2_1 a2_2).bind fun bt320 => ((impl_FitsState.f k bt299.1 bt299.2.1 bt299.2.2.1 bt299.2.2.2.1 bt299.2.2.2.2.1 bt299.2.2.2.2.2 bt314.1 bt314.2.1 bt314.2.2 bt320.1 bt320.2.1 bt320.2.2).bind fun t323 => (if (t323 != t298) = true then (some false) else ((laws_toFrame.f k a0_0 a0_1 l0_2 l0_3 l0_4 l0_5).bind fun bt324 => ((laws_eqFrame.f k bt299.1 bt299.2.1 bt299.2.2.1 bt299.2.2.2.1 bt299.2.2.2.2.1 bt299.2.2.2.2.2 bt324.1 bt324.2.1 bt324.2.2.1 bt324.2.2.2.1 bt324.2.2.2.2.1 bt324.2.2.2.2.2).bind fun t338 => (if t338 = true then ((laws_toState.f k a1_0 a1_1 l1_2).bind fun bt339 => ((laws_eqState.f k bt314.1 bt314.2.1 bt314.2.2 bt339.1 bt339.2.1 bt339.2.2).bind fun t344 => (if t344 = true then (some true) else (some false)))) else (some false))))))))) = some r := H
        have A31 := Aside0.mk A310
        clear A310
        replace H := Option.bind_eq_some_iff.mp H
        obtain ⟨⟨t299, t300, t301, t304, t307, t310⟩, A320, H⟩ := H
        replace H : ((laws_toState.f k a1_0 a1_1 l1_2).bind fun bt314 => ((laws_toValues.f a2_0 a2_1 a2_2).bind fun bt320 => ((impl_FitsState.f k t299 t300 t301 t304 t307 t310 bt314.1 bt314.2.1 bt314.2.2 bt320.1 bt320.2.1 bt320.2.2).bind fun t323 => (if (t323 != t298) = true then (some false) else ((laws_toFrame.f k a0_0 a0_1 l0_2 l0_3 l0_4 l0_5).bind fun bt324 => ((laws_eqFrame.f k t299 t300 t301 t304 t307 t310 bt324.1 bt324.2.1 bt324.2.2.1 bt324.2.2.2.1 bt324.2.2.2.2.1 bt324.2.2.2.2.2).bind fun t338 => (if t338 = true then ((laws_toState.f k a1_0 a1_1 l1_2).bind fun bt339 => ((laws_eqState.f k bt314.1 bt314.2.1 bt314.2.2 bt339.1 bt339.2.1 bt339.2.2).bind fun t344 => (if t344 = true then (some true) else (some false)))) else (some false)))))))) = some r := H
        have A32 := Aside0.mk A320
        clear A320
        replace H := Option.bind_eq_some_iff.mp H
        obtain ⟨⟨t314, t315, t316⟩, A330, H⟩ := H
        replace H : ((laws_toValues.f a2_0 a2_1 a2_2).bind fun bt320 => ((impl_FitsState.f k t299 t300 t301 t304 t307 t310 t314 t315 t316 bt320.1 bt320.2.1 bt320.2.2).bind fun t323 => (if (t323 != t298) = true then (some false) else ((laws_toFrame.f k a0_0 a0_1 l0_2 l0_3 l0_4 l0_5).bind fun bt324 => ((laws_eqFrame.f k t299 t300 t301 t304 t307 t310 bt324.1 bt324.2.1 bt324.2.2.1 bt324.2.2.2.1 bt324.2.2.2.2.1 bt324.2.2.2.2.2).bind fun t338 => (if t338 = true then ((laws_toState.f k a1_0 a1_1 l1_2).bind fun bt339 => ((laws_eqState.f k t314 t315 t316 bt339.1 bt339.2.1 bt339.2.2).bind fun t344 => (if t344 = true then (some true) else (some false)))) else (some false))))))) = some r := H
        have A33 := Aside0.mk A330
        clear A330
        replace H := Option.bind_eq_some_iff.mp H
        obtain ⟨⟨t320, t321, t322⟩, A340, H⟩ := H
        replace H : ((impl_FitsState.f k t299 t300 t301 t304 t307 t310 t314 t315 t316 t320 t321 t322).bind fun t323 => (if (t323 != t298) = true then (some false) else ((laws_toFrame.f k a0_0 a0_1 l0_2 l0_3 l0_4 l0_5).bind fun bt324 => ((laws_eqFrame.f k t299 t300 t301 t304 t307 t310 bt324.1 bt324.2.1 bt324.2.2.1 bt324.2.2.2.1 bt324.2.2.2.2.1 bt324.2.2.2.2.2).bind fun t338 => (if t338 = true then ((laws_toState.f k a1_0 a1_1 l1_2).bind fun bt339 => ((laws_eqState.f k t314 t315 t316 bt339.1 bt339.2.1 bt339.2.2).bind fun t344 => (if t344 = true then (some true) else (some false)))) else (some false)))))) = some r := H
        have A34 := Aside0.mk A340
        clear A340
        replace H := Option.bind_eq_some_iff.mp H
        obtain ⟨t323, A350, H⟩ := H
        replace H : (if (t323 != t298) = true then (some false) else ((laws_toFrame.f k a0_0 a0_1 l0_2 l0_3 l0_4 l0_5).bind fun bt324 => ((laws_eqFrame.f k t299 t300 t301 t304 t307 t310 bt324.1 bt324.2.1 bt324.2.2.1 bt324.2.2.2.1 bt324.2.2.2.2.1 bt324.2.2.2.2.2).bind fun t338 => (if t338 = true then ((laws_toState.f k a1_0 a1_1 l1_2).bind fun bt339 => ((laws_eqState.f k t314 t315 t316 bt339.1 bt339.2.1 bt339.2.2).bind fun t344 => (if t344 = true then (some true) else (some false)))) else (some false))))) = some r := H
        have A35 := Aside0.mk A350
        clear A350
        have HC36 := Aside0.mk H
        clear H
        try go_wp2
        have n0_ := Aside0.mk (blk_drew BK270.out)
        have n1_ := Aside0.mk (blk_drew BK271.out)
        have n2_ := Aside0.mk (blk_drew BK272.out)
        have n3_ := Aside0.mk (below_drew1 HB.out)
        clear BK270
        clear BK271
        clear BK272
        clear HB
        have BK270 := n0_
        have BK271 := n1_
        have BK272 := n2_
        have HB := n3_
        clear n0_ n1_ n2_ n3_
        refine start_ (n := 8) (S := fun w' => w'.cell? ⟨gb270, 0, none⟩ = some (.string a0_0) ∧ w'.cell? ⟨gb270, 1, none⟩ = some (.string a0_1) ∧ w'.cell? ⟨gb270, 2, none⟩ = some (.slice A0_2 l0_2.length c0_2) ∧ w'.cell? ⟨gb270, 3, none⟩ = some (.slice A0_3 l0_3.length c0_3) ∧ w'.cell? ⟨gb270, 4, none⟩ = some (.slice A0_4 l0_4.length c0_4) ∧ w'.cell? ⟨gb270, 5, none⟩ = some (.slice A0_5 l0_5.length c0_5) ∧ w'.cell? ⟨gb271, 0, none⟩ = some (.string a1_0) ∧ w'.cell? ⟨gb271, 1, none⟩ = some (.string a1_1) ∧ w'.cell? ⟨gb271, 2, none⟩ = some (.slice A1_2 l1_2.length c1_2) ∧ w'.cell? ⟨gb272, 0, none⟩ = some (.string a2_0) ∧ w'.cell? ⟨gb272, 1, none⟩ = some (.string a2_1) ∧ w'.cell? ⟨gb272, 2, none⟩ = some (.string a2_2)) (ds := []) #[false, false, false, false, false, false, false, false] (by kernel_rfl) rfl rfl ⟨(blk_cell BK270.out 0).trans rfl, (blk_cell BK270.out 1).trans rfl, (blk_cell BK270.out 2).trans rfl, (blk_cell BK270.out 3).trans rfl, (blk_cell BK270.out 4).trans rfl, (blk_cell BK270.out 5).trans rfl, (blk_cell BK271.out 0).trans rfl, (blk_cell BK271.out 1).trans rfl, (blk_cell BK271.out 2).trans rfl, (blk_cell BK272.out 0).trans rfl, (blk_cell BK272.out 1).trans rfl, (blk_cell BK272.out 2).trans rfl⟩ (fun hHeld => ?_); refine with_tabW laws_FnExactFitsState.tab11 laws_FnExactFitsState.bits11 (fun HT_ HW_ => ?_)
        generalize w26.drew = w37 at BK270 BK271 BK272 HB hHeld ⊢
        refine take_ (i := 0) (N := some 27) (v := ?_) (a' := ?_) #[true, false, false, false, false, false, false, false] rfl rfl (take_ofW HT_.out HW_.out (by kernel_rfl)) (fun _ _ _ h => h) (Or.inl ⟨by rfl, ?_⟩) hHeld ?_ ?_
        rotate_left
        · rintro w' ⟨s0, s1, s2, s3, s4, s5, s6, s7, s8, s9, s10, s11⟩
          go_simp
          with_reducible rfl
        rotate_left
        · simp only [Act.put, List.setIfInBounds_toArray, List.set_cons_zero, List.set_cons_succ, i64_w, i32_w]
          rfl
        refine take_ (i := 2) (N := some 29) (v := ?_) (a' := ?_) #[true, false, true, false, false, false, false, false] rfl rfl (take_ofW HT_.out HW_.out (by kernel_rfl)) (fun _ _ _ h => h) (Or.inl ⟨by rfl, ?_⟩) hHeld ?_ ?_
        rotate_left
        · rintro w' ⟨s0, s1, s2, s3, s4, s5, s6, s7, s8, s9, s10, s11⟩
          go_simp
          with_reducible rfl
        rotate_left
        · simp only [Act.put, List.setIfInBounds_toArray, List.set_cons_zero, List.set_cons_succ, i64_w, i32_w]
          rfl
        refine take_ (i := 4) (N := some 31) (v := ?_) (a' := ?_) #[true, false, true, false, true, false, false, false] rfl rfl (take_ofW HT_.out HW_.out (by kernel_rfl)) (fun _ _ _ h => h) (Or.inl ⟨by rfl, ?_⟩) hHeld ?_ ?_
        rotate_left
        · rintro w' ⟨s0, s1, s2, s3, s4, s5, s6, s7, s8, s9, s10, s11⟩
          go_simp
          with_reducible rfl
        rotate_left
        · simp only [Act.put, List.setIfInBounds_toArray, List.set_cons_zero, List.set_cons_succ, i64_w, i32_w]
          rfl
        refine one_ (i := 1) (N := some 28) #[true, true, true, false, true, false, false, false] rfl rfl (one_of HT_.out (by kernel_rfl)) (by decide) (fun K hK => ?_)
        refine goes_ Try.func38 (by kernel_rfl) rfl #[.agg #[.string a0_0, .string a0_1, .slice A0_2 l0_2.length c0_2, .slice A0_3 l0_3.length c0_3, .slice A0_4 l0_4.length c0_4, .slice A0_5 l0_5.length c0_5]] (by rfl) rfl rfl (by (try simp only [List.map_toArray, List.map_cons, List.map_nil]); first | done | rfl | (simp only [List.length_drop, List.length_take]; rfl)) ?_
        with_reducible refine (laws_toFrame.calls k a0_0 a0_1 _ _ l0_2 _ _ l0_3 _ _ l0_4 _ _ l0_5 t276 t277 t278 t281 t284 t287 _ ?side1 ?side2 ?side3 ?side4 ?side5 ?side6 ?side7 ?side8 A28.out).mono ?_
        (case side1 => repeat (first | exact (Kd.C_below HR0_2.out HB.out) | (with_reducible refine Kd.C_alloc ?_ _) | (with_reducible refine Kd.C_drewN ?_ _) | (with_reducible refine Kd.C_drew ?_)))
        (case side2 => exact HC0_2.out)
        (case side3 => repeat (first | exact (Kd.C_below HR0_3.out HB.out) | (with_reducible refine Kd.C_alloc ?_ _) | (with_reducible refine Kd.C_drewN ?_ _) | (with_reducible refine Kd.C_drew ?_)))
        (case side4 => exact HC0_3.out)
        (case side5 => repeat (first | exact (Kd.C_below HR0_4.out HB.out) | (with_reducible refine Kd.C_alloc ?_ _) | (with_reducible refine Kd.C_drewN ?_ _) | (with_reducible refine Kd.C_drew ?_)))
        (case side6 => exact HC0_4.out)
        (case side7 => repeat (first | exact (Kd.C_below HR0_5.out HB.out) | (with_reducible refine Kd.C_alloc ?_ _) | (with_reducible refine Kd.C_drewN ?_ _) | (with_reducible refine Kd.C_drew ?_)))
        (case side8 => exact HC0_5.out)
        rintro e w38 ⟨v279, v282, v285, v288, rfl, ho0, ho1, ho2, ho3, hb⟩
        refine ⟨_, rfl, ?_⟩
        have n0_ := Aside0.mk (Kd.S_lower ho0 (below_size (by repeat (first | (with_reducible first | exact HB.out | apply below_alloc | apply pw_below_drewN | apply below_drew1 | refine below_set ?_ GE270.out | refine below_set ?_ GE271.out | refine below_set ?_ GE272.out) | exact HB.out))))
        have n1_ := Aside0.mk (Kd.R_lower ho1 (below_size (by repeat (first | (with_reducible first | exact HB.out | apply below_alloc | apply pw_below_drewN | apply below_drew1 | refine below_set ?_ GE270.out | refine below_set ?_ GE271.out | refine below_set ?_ GE272.out) | exact HB.out))))
        have n2_ := Aside0.mk (Kd.S_lower ho2 (below_size (by repeat (first | (with_reducible first | exact HB.out | apply below_alloc | apply pw_below_drewN | apply below_drew1 | refine below_set ?_ GE270.out | refine below_set ?_ GE271.out | refine below_set ?_ GE272.out) | exact HB.out))))
        have n3_ := Aside0.mk (Kd.S_lower ho3 (below_size (by repeat (first | (with_reducible first | exact HB.out | apply below_alloc | apply pw_below_drewN | apply below_drew1 | refine below_set ?_ GE270.out | refine below_set ?_ GE271.out | refine below_set ?_ GE272.out) | exact HB.out))))
        have n4_ := Aside0.mk (blk_below (g := gb270) (o := .cells #[.string a0_0, .string a0_1, .slice A0_2 l0_2.length c0_2, .slice A0_3 l0_3.length c0_3, .slice A0_4 l0_4.length c0_4, .slice A0_5 l0_5.length c0_5] 68 (0, 0)) (by (with_reducible repeat (first | refine blk_drewN ?_ _ | refine blk_drew ?_ | refine blk_alloc ?_ _)); exact BK270.out) hb)
        have n5_ := Aside0.mk (blk_below (g := gb271) (o := .cells #[.string a1_0, .string a1_1, .slice A1_2 l1_2.length c1_2] 40 (0, 0)) (by (with_reducible repeat (first | refine blk_drewN ?_ _ | refine blk_drew ?_ | refine blk_alloc ?_ _)); exact BK271.out) hb)
        have n6_ := Aside0.mk (blk_below (g := gb272) (o := .cells #[.string a2_0, .string a2_1, .string a2_2] 52 (0, 0)) (by (with_reducible repeat (first | refine blk_drewN ?_ _ | refine blk_drew ?_ | refine blk_alloc ?_ _)); exact BK272.out) hb)
        have n7_ := Aside0.mk (below_step (by repeat (first | (with_reducible first | exact HB.out | apply below_alloc | apply pw_below_drewN | apply below_drew1 | refine below_set ?_ GE270.out | refine below_set ?_ GE271.out | refine below_set ?_ GE272.out) | exact HB.out)) hb)
        clear BK270
        clear BK271
        clear BK272
        clear HB
        have HO280 := n0_
        have HO283 := n1_
        have HO286 := n2_
        have HO289 := n3_
        have BK270 := n4_
        have BK271 := n5_
        have BK272 := n6_
        have HB := n7_
        clear n0_ n1_ n2_ n3_ n4_ n5_ n6_ n7_
        (try clear hb)
        (try clear hb2)
        (try clear hk)
        (try clear hi)
        (try clear ho0)
        (try clear ho1)
        (try clear ho2)
        (try clear ho3)
        refine hK.out _ _ ⟨(blk_cell BK270.out 0).trans rfl, (blk_cell BK270.out 1).trans rfl, (blk_cell BK270.out 2).trans rfl, (blk_cell BK270.out 3).trans rfl, (blk_cell BK270.out 4).trans rfl, (blk_cell BK270.out 5).trans rfl, (blk_cell BK271.out 0).trans rfl, (blk_cell BK271.out 1).trans rfl, (blk_cell BK271.out 2).trans rfl, (blk_cell BK272.out 0).trans rfl, (blk_cell BK272.out 1).trans rfl, (blk_cell BK272.out 2).trans rfl⟩ (fun hHeld => ?_)
        clear hK K
        refine norm_ (a' := ?_) ?_ ?_
        rotate_left
        · show Act.put _ (some 28) _ = _
          simp only [Act.put, List.setIfInBounds_toArray, List.set_cons_zero, List.set_cons_succ, i64_w, i32_w]
          rfl
        refine one_ (i := 3) (N := some 30) #[true, true, true, true, true, false, false, false] rfl rfl (one_of HT_.out (by kernel_rfl)) (by decide) (fun K hK => ?_)
        refine goes_ Try.func26 (by kernel_rfl) rfl #[.agg #[.string a1_0, .string a1_1, .slice A1_2 l1_2.length c1_2]] (by rfl) rfl rfl (by (try simp only [List.map_toArray, List.map_cons, List.map_nil]); first | done | rfl | (simp only [List.length_drop, List.length_take]; rfl)) ?_
        with_reducible refine (laws_toState.calls k a1_0 a1_1 _ _ l1_2 t290 t291 t292 _ ?side1 ?side2 A29.out).mono ?_
        (case side1 => repeat (first | exact (Kd.C_below HR1_2.out HB.out) | (with_reducible refine Kd.C_alloc ?_ _) | (with_reducible refine Kd.C_drewN ?_ _) | (with_reducible refine Kd.C_drew ?_)))
        (case side2 => exact HC1_2.out)
        rintro e w39 ⟨v293, rfl, ho0, hb⟩
        refine ⟨_, rfl, ?_⟩
        have n0_ := Aside0.mk (Kd.S_elder' (by (with_reducible repeat (first | apply Kd.S_alloc | apply Kd.S_drewN | apply Kd.S_drew)); exact HO280.out) (Kd.R_base ho0) hb)
        have n1_ := Aside0.mk (Kd.R_elder' (by (with_reducible repeat (first | apply Kd.R_alloc | apply Kd.R_drewN | apply Kd.R_drew)); exact HO283.out) (Kd.R_base ho0) hb)
        have n2_ := Aside0.mk (Kd.S_elder' (by (with_reducible repeat (first | apply Kd.S_alloc | apply Kd.S_drewN | apply Kd.S_drew)); exact HO286.out) (Kd.R_base ho0) hb)
        have n3_ := Aside0.mk (Kd.S_elder' (by (with_reducible repeat (first | apply Kd.S_alloc | apply Kd.S_drewN | apply Kd.S_drew)); exact HO289.out) (Kd.R_base ho0) hb)
        have n4_ := Aside0.mk (Kd.R_lower (Kd.R_new' ho0 (Kd.R_lt (by (with_reducible repeat (first | apply Kd.R_alloc | apply Kd.R_drewN | apply Kd.R_drew)); exact HO283.out))) (below_size (by repeat (first | (with_reducible first | exact HB.out | apply below_alloc | apply pw_below_drewN | apply below_drew1 | refine below_set ?_ GE270.out | refine below_set ?_ GE271.out | refine below_set ?_ GE272.out) | exact HB.out))))
        have n5_ := Aside0.mk (blk_below (g := gb270) (o := .cells #[.string a0_0, .string a0_1, .slice A0_2 l0_2.length c0_2, .slice A0_3 l0_3.length c0_3, .slice A0_4 l0_4.length c0_4, .slice A0_5 l0_5.length c0_5] 68 (0, 0)) (by (with_reducible repeat (first | refine blk_drewN ?_ _ | refine blk_drew ?_ | refine blk_alloc ?_ _)); exact BK270.out) hb)
        have n6_ := Aside0.mk (blk_below (g := gb271) (o := .cells #[.string a1_0, .string a1_1, .slice A1_2 l1_2.length c1_2] 40 (0, 0)) (by (with_reducible repeat (first | refine blk_drewN ?_ _ | refine blk_drew ?_ | refine blk_alloc ?_ _)); exact BK271.out) hb)
        have n7_ := Aside0.mk (blk_below (g := gb272) (o := .cells #[.string a2_0, .string a2_1, .string a2_2] 52 (0, 0)) (by (with_reducible repeat (first | refine blk_drewN ?_ _ | refine blk_drew ?_ | refine blk_alloc ?_ _)); exact BK272.out) hb)
        have n8_ := Aside0.mk (below_step (by repeat (first | (with_reducible first | exact HB.out | apply below_alloc | apply pw_below_drewN | apply below_drew1 | refine below_set ?_ GE270.out | refine below_set ?_ GE271.out | refine below_set ?_ GE272.out) | exact HB.out)) hb)
        clear HO280
        clear HO283
        clear HO286
        clear HO289
        clear BK270
        clear BK271
        clear BK272
        clear HB
        have HO280 := n0_
        have HO283 := n1_
        have HO286 := n2_
        have HO289 := n3_
        have HO294 := n4_
        have BK270 := n5_
        have BK271 := n6_
        have BK272 := n7_
        have HB := n8_
        clear n0_ n1_ n2_ n3_ n4_ n5_ n6_ n7_ n8_
        (try clear hb)
        (try clear hb2)
        (try clear hk)
        (try clear hi)
        (try clear ho0)
        refine hK.out _ _ ⟨(blk_cell BK270.out 0).trans rfl, (blk_cell BK270.out 1).trans rfl, (blk_cell BK270.out 2).trans rfl, (blk_cell BK270.out 3).trans rfl, (blk_cell BK270.out 4).trans rfl, (blk_cell BK270.out 5).trans rfl, (blk_cell BK271.out 0).trans rfl, (blk_cell BK271.out 1).trans rfl, (blk_cell BK271.out 2).trans rfl, (blk_cell BK272.out 0).trans rfl, (blk_cell BK272.out 1).trans rfl, (blk_cell BK272.out 2).trans rfl⟩ (fun hHeld => ?_)
        clear hK K
        refine norm_ (a' := ?_) ?_ ?_
        rotate_left
        · show Act.put _ (some 30) _ = _
          simp only [Act.put, List.setIfInBounds_toArray, List.set_cons_zero, List.set_cons_succ, i64_w, i32_w]
          rfl
        refine one_ (i := 5) (N := some 32) #[true, true, true, true, true, true, false, false] rfl rfl (one_of HT_.out (by kernel_rfl)) (by decide) (fun K hK => ?_)
        refine goes_ Try.func39 (by kernel_rfl) rfl #[.agg #[.string a2_0, .string a2_1, .string a2_2]] (by rfl) rfl rfl (by (try simp only [List.map_toArray, List.map_cons, List.map_nil]); first | done | rfl | (simp only [List.length_drop, List.length_take]; rfl)) ?_
        with_reducible refine (laws_toValues.calls a2_0 a2_1 a2_2 t295 t296 t297 _ A30.out).mono ?_
        rintro e w40 ⟨rfl, hb⟩
        refine ⟨_, rfl, ?_⟩
        have n0_ := Aside0.mk (Kd.S_below (by (with_reducible repeat (first | apply Kd.S_alloc | apply Kd.S_drewN | apply Kd.S_drew)); exact HO280.out) hb)
        have n1_ := Aside0.mk (Kd.R_below (by (with_reducible repeat (first | apply Kd.R_alloc | apply Kd.R_drewN | apply Kd.R_drew)); exact HO283.out) hb)
        have n2_ := Aside0.mk (Kd.S_below (by (with_reducible repeat (first | apply Kd.S_alloc | apply Kd.S_drewN | apply Kd.S_drew)); exact HO286.out) hb)
        have n3_ := Aside0.mk (Kd.S_below (by (with_reducible repeat (first | apply Kd.S_alloc | apply Kd.S_drewN | apply Kd.S_drew)); exact HO289.out) hb)
        have n4_ := Aside0.mk (Kd.R_below (by (with_reducible repeat (first | apply Kd.R_alloc | apply Kd.R_drewN | apply Kd.R_drew)); exact HO294.out) hb)
        have n5_ := Aside0.mk (blk_below (g := gb270) (o := .cells #[.string a0_0, .string a0_1, .slice A0_2 l0_2.length c0_2, .slice A0_3 l0_3.length c0_3, .slice A0_4 l0_4.length c0_4, .slice A0_5 l0_5.length c0_5] 68 (0, 0)) (by (with_reducible repeat (first | refine blk_drewN ?_ _ | refine blk_drew ?_ | refine blk_alloc ?_ _)); exact BK270.out) hb)
        have n6_ := Aside0.mk (blk_below (g := gb271) (o := .cells #[.string a1_0, .string a1_1, .slice A1_2 l1_2.length c1_2] 40 (0, 0)) (by (with_reducible repeat (first | refine blk_drewN ?_ _ | refine blk_drew ?_ | refine blk_alloc ?_ _)); exact BK271.out) hb)
        have n7_ := Aside0.mk (blk_below (g := gb272) (o := .cells #[.string a2_0, .string a2_1, .string a2_2] 52 (0, 0)) (by (with_reducible repeat (first | refine blk_drewN ?_ _ | refine blk_drew ?_ | refine blk_alloc ?_ _)); exact BK272.out) hb)
        have n8_ := Aside0.mk (below_step (by repeat (first | (with_reducible first | exact HB.out | apply below_alloc | apply pw_below_drewN | apply below_drew1 | refine below_set ?_ GE270.out | refine below_set ?_ GE271.out | refine below_set ?_ GE272.out) | exact HB.out)) hb)
        clear HO280
        clear HO283
        clear HO286
        clear HO289
        clear HO294
        clear BK270
        clear BK271
        clear BK272
        clear HB
        have HO280 := n0_
        have HO283 := n1_
        have HO286 := n2_
        have HO289 := n3_
        have HO294 := n4_
        have BK270 := n5_
        have BK271 := n6_
        have BK272 := n7_
        have HB := n8_
        clear n0_ n1_ n2_ n3_ n4_ n5_ n6_ n7_ n8_
        (try clear hb)
        (try clear hb2)
        (try clear hk)
        (try clear hi)
        obtain ⟨Ao41, co41, eo41⟩ := Kd.S_slice HO280.out
        (first | subst eo41 | (injection eo41 with f1_ f2_ f3_; have f4_ := f1_.symm; have f5_ := f3_.symm; clear f1_ f2_ f3_; subst f4_; subst f5_))
        obtain ⟨Ao42, co42, eo42⟩ := Kd.R_slice HO283.out
        (first | subst eo42 | (injection eo42 with f1_ f2_ f3_; have f4_ := f1_.symm; have f5_ := f3_.symm; clear f1_ f2_ f3_; subst f4_; subst f5_))
        obtain ⟨Ao43, co43, eo43⟩ := Kd.S_slice HO286.out
        (first | subst eo43 | (injection eo43 with f1_ f2_ f3_; have f4_ := f1_.symm; have f5_ := f3_.symm; clear f1_ f2_ f3_; subst f4_; subst f5_))
        obtain ⟨Ao44, co44, eo44⟩ := Kd.S_slice HO289.out
        (first | subst eo44 | (injection eo44 with f1_ f2_ f3_; have f4_ := f1_.symm; have f5_ := f3_.symm; clear f1_ f2_ f3_; subst f4_; subst f5_))
        obtain ⟨Ao45, co45, eo45⟩ := Kd.R_slice HO294.out
        (first | subst eo45 | (injection eo45 with f1_ f2_ f3_; have f4_ := f1_.symm; have f5_ := f3_.symm; clear f1_ f2_ f3_; subst f4_; subst f5_))
        refine hK.out _ _ ⟨(blk_cell BK270.out 0).trans rfl, (blk_cell BK270.out 1).trans rfl, (blk_cell BK270.out 2).trans rfl, (blk_cell BK270.out 3).trans rfl, (blk_cell BK270.out 4).trans rfl, (blk_cell BK270.out 5).trans rfl, (blk_cell BK271.out 0).trans rfl, (blk_cell BK271.out 1).trans rfl, (blk_cell BK271.out 2).trans rfl, (blk_cell BK272.out 0).trans rfl, (blk_cell BK272.out 1).trans rfl, (blk_cell BK272.out 2).trans rfl⟩ (fun hHeld => ?_)
        clear hK K
        refine norm_ (a' := ?_) ?_ ?_
        rotate_left
        · show Act.put _ (some 32) _ = _
          simp only [Act.put, List.setIfInBounds_toArray, List.set_cons_zero, List.set_cons_succ, i64_w, i32_w]
          rfl
        refine one_ (i := 6) (N := some 33) #[true, true, true, true, true, true, true, false] rfl rfl (one_of HT_.out (by kernel_rfl)) (by decide) (fun K hK => ?_)
        refine goes_ Try.func37 (by kernel_rfl) rfl #[.agg #[.string t276, .string t277, .slice Ao41 t278.length co41, .slice Ao42 t281.length co42, .slice Ao43 t284.length co43, .slice Ao44 t287.length co44], .agg #[.string t290, .string t291, .slice Ao45 t292.length co45], .agg #[.string t295, .string t296, .string t297]] (by rfl) rfl rfl (by (try simp only [List.map_toArray, List.map_cons, List.map_nil]); first | done | rfl | (simp only [List.length_drop, List.length_take]; rfl)) ?_
        with_reducible refine (spec_FitsState.calls k t276 t277 _ _ t278 _ _ t281 _ _ t284 _ _ t287 t290 t291 _ _ t292 t295 t296 t297 t298 _ ?side1 ?side2 ?side3 ?side4 ?side5 ?side6 ?side7 ?side8 ?side9 ?side10 A31.out).mono ?_
        (case side1 => repeat (first | exact (Kd.S_reads' HO280.out).2.2 | (with_reducible refine Kd.C_alloc ?_ _) | (with_reducible refine Kd.C_drewN ?_ _) | (with_reducible refine Kd.C_drew ?_)))
        (case side2 => exact (Kd.S_reads' HO280.out).2.1)
        (case side3 => repeat (first | exact (Kd.R_reads' HO283.out).2.2 | (with_reducible refine Kd.C_alloc ?_ _) | (with_reducible refine Kd.C_drewN ?_ _) | (with_reducible refine Kd.C_drew ?_)))
        (case side4 => exact (Kd.R_reads' HO283.out).2.1)
        (case side5 => repeat (first | exact (Kd.S_reads' HO286.out).2.2 | (with_reducible refine Kd.C_alloc ?_ _) | (with_reducible refine Kd.C_drewN ?_ _) | (with_reducible refine Kd.C_drew ?_)))
        (case side6 => exact (Kd.S_reads' HO286.out).2.1)
        (case side7 => repeat (first | exact (Kd.S_reads' HO289.out).2.2 | (with_reducible refine Kd.C_alloc ?_ _) | (with_reducible refine Kd.C_drewN ?_ _) | (with_reducible refine Kd.C_drew ?_)))
        (case side8 => exact (Kd.S_reads' HO289.out).2.1)
        (case side9 => repeat (first | exact (Kd.R_reads' HO294.out).2.2 | (with_reducible refine Kd.C_alloc ?_ _) | (with_reducible refine Kd.C_drewN ?_ _) | (with_reducible refine Kd.C_drew ?_)))
        (case side10 => exact (Kd.R_reads' HO294.out).2.1)
        rintro e w46 ⟨rfl, hb⟩
        refine ⟨_, rfl, ?_⟩
        have n0_ := Aside0.mk (Kd.S_below (by (with_reducible repeat (first | apply Kd.S_alloc | apply Kd.S_drewN | apply Kd.S_drew)); exact HO280.out) hb)
        have n1_ := Aside0.mk (Kd.R_below (by (with_reducible repeat (first | apply Kd.R_alloc | apply Kd.R_drewN | apply Kd.R_drew)); exact HO283.out) hb)
        have n2_ := Aside0.mk (Kd.S_below (by (with_reducible repeat (first | apply Kd.S_alloc | apply Kd.S_drewN | apply Kd.S_drew)); exact HO286.out) hb)
        have n3_ := Aside0.mk (Kd.S_below (by (with_reducible repeat (first | apply Kd.S_alloc | apply Kd.S_drewN | apply Kd.S_drew)); exact HO289.out) hb)
        have n4_ := Aside0.mk (Kd.R_below (by (with_reducible repeat (first | apply Kd.R_alloc | apply Kd.R_drewN | apply Kd.R_drew)); exact HO294.out) hb)
        have n5_ := Aside0.mk (blk_below (g := gb270) (o := .cells #[.string a0_0, .string a0_1, .slice A0_2 l0_2.length c0_2, .slice A0_3 l0_3.length c0_3, .slice A0_4 l0_4.length c0_4, .slice A0_5 l0_5.length c0_5] 68 (0, 0)) (by (with_reducible repeat (first | refine blk_drewN ?_ _ | refine blk_drew ?_ | refine blk_alloc ?_ _)); exact BK270.out) hb)
        have n6_ := Aside0.mk (blk_below (g := gb271) (o := .cells #[.string a1_0, .string a1_1, .slice A1_2 l1_2.length c1_2] 40 (0, 0)) (by (with_reducible repeat (first | refine blk_drewN ?_ _ | refine blk_drew ?_ | refine blk_alloc ?_ _)); exact BK271.out) hb)
        have n7_ := Aside0.mk (blk_below (g := gb272) (o := .cells #[.string a2_0, .string a2_1, .string a2_2] 52 (0, 0)) (by (with_reducible repeat (first | refine blk_drewN ?_ _ | refine blk_drew ?_ | refine blk_alloc ?_ _)); exact BK272.out) hb)
        have n8_ := Aside0.mk (below_step (by repeat (first | (with_reducible first | exact HB.out | apply below_alloc | apply pw_below_drewN | apply below_drew1 | refine below_set ?_ GE270.out | refine below_set ?_ GE271.out | refine below_set ?_ GE272.out) | exact HB.out)) hb)
        clear HO280
        clear HO283
        clear HO286
        clear HO289
        clear HO294
        clear BK270
        clear BK271
        clear BK272
        clear HB
        have HO280 := n0_
        have HO283 := n1_
        have HO286 := n2_
        have HO289 := n3_
        have HO294 := n4_
        have BK270 := n5_
        have BK271 := n6_
        have BK272 := n7_
        have HB := n8_
        clear n0_ n1_ n2_ n3_ n4_ n5_ n6_ n7_ n8_
        (try clear hb)
        (try clear hb2)
        (try clear hk)
        (try clear hi)
        refine hK.out _ _ ⟨(blk_cell BK270.out 0).trans rfl, (blk_cell BK270.out 1).trans rfl, (blk_cell BK270.out 2).trans rfl, (blk_cell BK270.out 3).trans rfl, (blk_cell BK270.out 4).trans rfl, (blk_cell BK270.out 5).trans rfl, (blk_cell BK271.out 0).trans rfl, (blk_cell BK271.out 1).trans rfl, (blk_cell BK271.out 2).trans rfl, (blk_cell BK272.out 0).trans rfl, (blk_cell BK272.out 1).trans rfl, (blk_cell BK272.out 2).trans rfl⟩ (fun hHeld => ?_)
        clear hK K
        refine norm_ (a' := ?_) ?_ ?_
        rotate_left
        · show Act.put _ (some 33) _ = _
          simp only [Act.put, List.setIfInBounds_toArray, List.set_cons_zero, List.set_cons_succ, i64_w, i32_w]
          rfl
        refine pure_ (i := 7) (N := some 8) (v := ?_) (a' := ?_) #[true, true, true, true, true, true, true, true] rfl rfl (any_of HT_.out (by kernel_rfl)) (fun _ _ _ h => h) (Or.inl ⟨by rfl, ?_⟩) ?_ ?_
        rotate_left
        · intro w'
          go_simp
          with_reducible rfl
        rotate_left
        · simp only [Act.put, List.setIfInBounds_toArray, List.set_cons_zero, List.set_cons_succ, i64_w, i32_w]
          rfl
        refine done_ (done_of HT_.out (by kernel_rfl)) ?_
        have hnb47 := NB270_271.out
        have hnc47 := NB271_270.out
        have hnb48 := NB270_272.out
        have hnc48 := NB272_270.out
        have hcz49_0 : w46.cell? ⟨gb270, 0, none⟩ = some (.string a0_0) := (blk_cell BK270.out 0).trans rfl
        have hcz49_1 : w46.cell? ⟨gb270, 1, none⟩ = some (.string a0_1) := (blk_cell BK270.out 1).trans rfl
        have hcz49_2 : w46.cell? ⟨gb270, 2, none⟩ = some (.slice A0_2 l0_2.length c0_2) := (blk_cell BK270.out 2).trans rfl
        have hcz49_3 : w46.cell? ⟨gb270, 3, none⟩ = some (.slice A0_3 l0_3.length c0_3) := (blk_cell BK270.out 3).trans rfl
        have hcz49_4 : w46.cell? ⟨gb270, 4, none⟩ = some (.slice A0_4 l0_4.length c0_4) := (blk_cell BK270.out 4).trans rfl
        have hcz49_5 : w46.cell? ⟨gb270, 5, none⟩ = some (.slice A0_5 l0_5.length c0_5) := (blk_cell BK270.out 5).trans rfl
        have hfz49_0 := blk_frozen BK270.out 0
        have hfz49_1 := blk_frozen BK270.out 1
        have hfz49_2 := blk_frozen BK270.out 2
        have hfz49_3 := blk_frozen BK270.out 3
        have hfz49_4 := blk_frozen BK270.out 4
        have hfz49_5 := blk_frozen BK270.out 5
        try go_wp2_with (first | ((with_reducible refine gate_callee (f := 38) rfl ?_); refine goesL_ (some 35) rfl rfl Try.func38 (by kernel_rfl) rfl #[.agg #[.string a0_0, .string a0_1, .slice A0_2 l0_2.length c0_2, .slice A0_3 l0_3.length c0_3, .slice A0_4 l0_4.length c0_4, .slice A0_5 l0_5.length c0_5]] rfl (by (try simp only [List.map_toArray, List.map_cons, List.map_nil]); first | done | rfl | (simp only [List.length_drop, List.length_take]; rfl)) ?_; (with_reducible refine (laws_toFrame.calls k a0_0 a0_1 _ _ l0_2 _ _ l0_3 _ _ l0_4 _ _ l0_5 t299 t300 t301 t304 t307 t310 _ ?side1 ?side2 ?side3 ?side4 ?side5 ?side6 ?side7 ?side8 A32.out).mono ?_); (case side1 => repeat (first | exact (Kd.C_below HR0_2.out HB.out) | (with_reducible refine Kd.C_alloc ?_ _) | (with_reducible refine Kd.C_drewN ?_ _) | (with_reducible refine Kd.C_drew ?_))); (case side2 => exact HC0_2.out); (case side3 => repeat (first | exact (Kd.C_below HR0_3.out HB.out) | (with_reducible refine Kd.C_alloc ?_ _) | (with_reducible refine Kd.C_drewN ?_ _) | (with_reducible refine Kd.C_drew ?_))); (case side4 => exact HC0_3.out); (case side5 => repeat (first | exact (Kd.C_below HR0_4.out HB.out) | (with_reducible refine Kd.C_alloc ?_ _) | (with_reducible refine Kd.C_drewN ?_ _) | (with_reducible refine Kd.C_drew ?_))); (case side6 => exact HC0_4.out); (case side7 => repeat (first | exact (Kd.C_below HR0_5.out HB.out) | (with_reducible refine Kd.C_alloc ?_ _) | (with_reducible refine Kd.C_drewN ?_ _) | (with_reducible refine Kd.C_drew ?_))); (case side8 => exact HC0_5.out); rintro e w50 ⟨v302, v305, v308, v311, rfl, ho0, ho1, ho2, ho3, hb⟩; refine ⟨_, rfl, ?_⟩; have n0_ := Aside0.mk (Kd.S_mono (Kd.S_told (Kd.S_told (Kd.S_told (Kd.S_told (Kd.S_old (by (with_reducible repeat (first | apply Kd.S_alloc | apply Kd.S_drewN | apply Kd.S_drew)); exact HO280.out) hb) (Kd.S_base ho0)) (Kd.R_base ho1)) (Kd.S_base ho2)) (Kd.S_base ho3)) (fun _ h_ => h_.1)); have n1_ := Aside0.mk (Kd.R_elder' (by (with_reducible repeat (first | apply Kd.R_alloc | apply Kd.R_drewN | apply Kd.R_drew)); exact HO283.out) (Kd.R_base ho1) hb); have n2_ := Aside0.mk (Kd.S_mono (Kd.S_told (Kd.S_told (Kd.S_told (Kd.S_told (Kd.S_old (by (with_reducible repeat (first | apply Kd.S_alloc | apply Kd.S_drewN | apply Kd.S_drew)); exact HO286.out) hb) (Kd.S_base ho0)) (Kd.R_base ho1)) (Kd.S_base ho2)) (Kd.S_base ho3)) (fun _ h_ => h_.1)); have n3_ := Aside0.mk (Kd.S_mono (Kd.S_told (Kd.S_told (Kd.S_told (Kd.S_told (Kd.S_old (by (with_reducible repeat (first | apply Kd.S_alloc | apply Kd.S_drewN | apply Kd.S_drew)); exact HO289.out) hb) (Kd.S_base ho0)) (Kd.R_base ho1)) (Kd.S_base ho2)) (Kd.S_base ho3)) (fun _ h_ => h_.1)); have n4_ := Aside0.mk (Kd.R_elder' (by (with_reducible repeat (first | apply Kd.R_alloc | apply Kd.R_drewN | apply Kd.R_drew)); exact HO294.out) (Kd.R_base ho1) hb); have n5_ := Aside0.mk (Kd.S_lower (Kd.S_new' (Kd.S_new' (Kd.S_new' (Kd.S_new' (Kd.S_new' ho0 (Kd.S_lt (by (with_reducible repeat (first | apply Kd.S_alloc | apply Kd.S_drewN | apply Kd.S_drew)); exact HO280.out))) (Kd.R_lt (by (with_reducible repeat (first | apply Kd.R_alloc | apply Kd.R_drewN | apply Kd.R_drew)); exact HO283.out))) (Kd.S_lt (by (with_reducible repeat (first | apply Kd.S_alloc | apply Kd.S_drewN | apply Kd.S_drew)); exact HO286.out))) (Kd.S_lt (by (with_reducible repeat (first | apply Kd.S_alloc | apply Kd.S_drewN | apply Kd.S_drew)); exact HO289.out))) (Kd.R_lt (by (with_reducible repeat (first | apply Kd.R_alloc | apply Kd.R_drewN | apply Kd.R_drew)); exact HO294.out))) (below_size (by repeat (first | (with_reducible first | exact HB.out | apply below_alloc | apply pw_below_drewN | apply below_drew1 | refine below_set ?_ GE270.out | refine below_set ?_ GE271.out | refine below_set ?_ GE272.out) | exact HB.out)))); have n6_ := Aside0.mk (Kd.R_lower (Kd.R_new' (Kd.R_new' ho1 (Kd.R_lt (by (with_reducible repeat (first | apply Kd.R_alloc | apply Kd.R_drewN | apply Kd.R_drew)); exact HO283.out))) (Kd.R_lt (by (with_reducible repeat (first | apply Kd.R_alloc | apply Kd.R_drewN | apply Kd.R_drew)); exact HO294.out))) (below_size (by repeat (first | (with_reducible first | exact HB.out | apply below_alloc | apply pw_below_drewN | apply below_drew1 | refine below_set ?_ GE270.out | refine below_set ?_ GE271.out | refine below_set ?_ GE272.out) | exact HB.out)))); have n7_ := Aside0.mk (Kd.S_lower (Kd.S_new' (Kd.S_new' (Kd.S_new' (Kd.S_new' (Kd.S_new' ho2 (Kd.S_lt (by (with_reducible repeat (first | apply Kd.S_alloc | apply Kd.S_drewN | apply Kd.S_drew)); exact HO280.out))) (Kd.R_lt (by (with_reducible repeat (first | apply Kd.R_alloc | apply Kd.R_drewN | apply Kd.R_drew)); exact HO283.out))) (Kd.S_lt (by (with_reducible repeat (first | apply Kd.S_alloc | apply Kd.S_drewN | apply Kd.S_drew)); exact HO286.out))) (Kd.S_lt (by (with_reducible repeat (first | apply Kd.S_alloc | apply Kd.S_drewN | apply Kd.S_drew)); exact HO289.out))) (Kd.R_lt (by (with_reducible repeat (first | apply Kd.R_alloc | apply Kd.R_drewN | apply Kd.R_drew)); exact HO294.out))) (below_size (by repeat (first | (with_reducible first | exact HB.out | apply below_alloc | apply pw_below_drewN | apply below_drew1 | refine below_set ?_ GE270.out | refine below_set ?_ GE271.out | refine below_set ?_ GE272.out) | exact HB.out)))); have n8_ := Aside0.mk (Kd.S_lower (Kd.S_new' (Kd.S_new' (Kd.S_new' (Kd.S_new' (Kd.S_new' ho3 (Kd.S_lt (by (with_reducible repeat (first | apply Kd.S_alloc | apply Kd.S_drewN | apply Kd.S_drew)); exact HO280.out))) (Kd.R_lt (by (with_reducible repeat (first | apply Kd.R_alloc | apply Kd.R_drewN | apply Kd.R_drew)); exact HO283.out))) (Kd.S_lt (by (with_reducible repeat (first | apply Kd.S_alloc | apply Kd.S_drewN | apply Kd.S_drew)); exact HO286.out))) (Kd.S_lt (by (with_reducible repeat (first | apply Kd.S_alloc | apply Kd.S_drewN | apply Kd.S_drew)); exact HO289.out))) (Kd.R_lt (by (with_reducible repeat (first | apply Kd.R_alloc | apply Kd.R_drewN | apply Kd.R_drew)); exact HO294.out))) (below_size (by repeat (first | (with_reducible first | exact HB.out | apply below_alloc | apply pw_below_drewN | apply below_drew1 | refine below_set ?_ GE270.out | refine below_set ?_ GE271.out | refine below_set ?_ GE272.out) | exact HB.out)))); have n9_ := Aside0.mk (blk_below (g := gb270) (o := .cells #[.string a0_0, .string a0_1, .slice A0_2 l0_2.length c0_2, .slice A0_3 l0_3.length c0_3, .slice A0_4 l0_4.length c0_4, .slice A0_5 l0_5.length c0_5] 68 (0, 0)) (by (with_reducible repeat (first | refine blk_drewN ?_ _ | refine blk_drew ?_ | refine blk_alloc ?_ _)); exact BK270.out) hb); have n10_ := Aside0.mk (blk_below (g := gb271) (o := .cells #[.string a1_0, .string a1_1, .slice A1_2 l1_2.length c1_2] 40 (0, 0)) (by (with_reducible repeat (first | refine blk_drewN ?_ _ | refine blk_drew ?_ | refine blk_alloc ?_ _)); exact BK271.out) hb); have n11_ := Aside0.mk (blk_below (g := gb272) (o := .cells #[.string a2_0, .string a2_1, .string a2_2] 52 (0, 0)) (by (with_reducible repeat (first | refine blk_drewN ?_ _ | refine blk_drew ?_ | refine blk_alloc ?_ _)); exact BK272.out) hb); have n12_ := Aside0.mk (below_step (by repeat (first | (with_reducible first | exact HB.out | apply below_alloc | apply pw_below_drewN | apply below_drew1 | refine below_set ?_ GE270.out | refine below_set ?_ GE271.out | refine below_set ?_ GE272.out) | exact HB.out)) hb); clear HO280; clear HO283; clear HO286; clear HO289; clear HO294; clear BK270; clear BK271; clear BK272; clear HB; have HO280 := n0_; have HO283 := n1_; have HO286 := n2_; have HO289 := n3_; have HO294 := n4_; have HO303 := n5_; have HO306 := n6_; have HO309 := n7_; have HO312 := n8_; have BK270 := n9_; have BK271 := n10_; have BK272 := n11_; have HB := n12_; clear n0_ n1_ n2_ n3_ n4_ n5_ n6_ n7_ n8_ n9_ n10_ n11_ n12_; (try clear hb); (try clear hb2); (try clear hk); (try clear hi); (try clear ho0); (try clear ho1); (try clear ho2); (try clear ho3)) | ((with_reducible refine gate_dst (N := 9) rfl ?_); refine box_event ?hg (N := 9) ?hd (cs := #[.string (⟨#[]⟩ : ByteArray), .string (⟨#[]⟩ : ByteArray), .slice none 0 0, .slice none 0 0, .slice none 0 0, .slice none 0 0]) (t := 75) ?hr ?_; (case hd => rfl); (case hg => rfl); (case hr => first | (go_simp; done) | (go_simp; rfl)); intro gb313 hg w51 hbox hb; have n0_ := Aside0.mk (Kd.S_below (by (with_reducible repeat (first | apply Kd.S_alloc | apply Kd.S_drewN | apply Kd.S_drew)); exact HO280.out) hb); have n1_ := Aside0.mk (Kd.R_below (by (with_reducible repeat (first | apply Kd.R_alloc | apply Kd.R_drewN | apply Kd.R_drew)); exact HO283.out) hb); have n2_ := Aside0.mk (Kd.S_below (by (with_reducible repeat (first | apply Kd.S_alloc | apply Kd.S_drewN | apply Kd.S_drew)); exact HO286.out) hb); have n3_ := Aside0.mk (Kd.S_below (by (with_reducible repeat (first | apply Kd.S_alloc | apply Kd.S_drewN | apply Kd.S_drew)); exact HO289.out) hb); have n4_ := Aside0.mk (Kd.R_below (by (with_reducible repeat (first | apply Kd.R_alloc | apply Kd.R_drewN | apply Kd.R_drew)); exact HO294.out) hb); have n5_ := Aside0.mk (Kd.S_below (by (with_reducible repeat (first | apply Kd.S_alloc | apply Kd.S_drewN | apply Kd.S_drew)); exact HO303.out) hb); have n6_ := Aside0.mk (Kd.R_below (by (with_reducible repeat (first | apply Kd.R_alloc | apply Kd.R_drewN | apply Kd.R_drew)); exact HO306.out) hb); have n7_ := Aside0.mk (Kd.S_below (by (with_reducible repeat (first | apply Kd.S_alloc | apply Kd.S_drewN | apply Kd.S_drew)); exact HO309.out) hb); have n8_ := Aside0.mk (Kd.S_below (by (with_reducible repeat (first | apply Kd.S_alloc | apply Kd.S_drewN | apply Kd.S_drew)); exact HO312.out) hb); have n9_ := Aside0.mk (blk_below (g := gb270) (o := .cells #[.string a0_0, .string a0_1, .slice A0_2 l0_2.length c0_2, .slice A0_3 l0_3.length c0_3, .slice A0_4 l0_4.length c0_4, .slice A0_5 l0_5.length c0_5] 68 (0, 0)) (by (with_reducible repeat (first | refine blk_drewN ?_ _ | refine blk_drew ?_ | refine blk_alloc ?_ _)); exact BK270.out) hb); have n10_ := Aside0.mk (blk_below (g := gb271) (o := .cells #[.string a1_0, .string a1_1, .slice A1_2 l1_2.length c1_2] 40 (0, 0)) (by (with_reducible repeat (first | refine blk_drewN ?_ _ | refine blk_drew ?_ | refine blk_alloc ?_ _)); exact BK271.out) hb); have n11_ := Aside0.mk (blk_below (g := gb272) (o := .cells #[.string a2_0, .string a2_1, .string a2_2] 52 (0, 0)) (by (with_reducible repeat (first | refine blk_drewN ?_ _ | refine blk_drew ?_ | refine blk_alloc ?_ _)); exact BK272.out) hb); have n12_ := Aside0.mk (below_step (by repeat (first | (with_reducible first | exact HB.out | apply below_alloc | apply pw_below_drewN | apply below_drew1 | refine below_set ?_ GE270.out | refine below_set ?_ GE271.out | refine below_set ?_ GE272.out) | exact HB.out)) hb); have n13_ := Aside0.mk (hbox); have n14_ := Aside0.mk ((by rw [hg]; exact (below_size (by repeat (first | (with_reducible first | exact HB.out | apply below_alloc | apply pw_below_drewN | apply below_drew1 | refine below_set ?_ GE270.out | refine below_set ?_ GE271.out | refine below_set ?_ GE272.out) | exact HB.out))) : w.heap.size ≤ gb313)); have n15_ := Aside0.mk ((by rw [hg]; exact (below_size (by repeat (first | (with_reducible first | exact HB.out | apply below_alloc | apply pw_below_drewN | apply below_drew1 | refine below_set ?_ GE270.out | refine below_set ?_ GE271.out | refine below_set ?_ GE272.out) | exact HB.out))) : w.heap.size ≤ gb313)); have n16_ := Aside0.mk ((by rw [hg]; exact Nat.ne_of_lt (blk_lt (g := gb270) (o := .cells #[.string a0_0, .string a0_1, .slice A0_2 l0_2.length c0_2, .slice A0_3 l0_3.length c0_3, .slice A0_4 l0_4.length c0_4, .slice A0_5 l0_5.length c0_5] 68 (0, 0)) (by (with_reducible repeat (first | refine blk_drewN ?_ _ | refine blk_drew ?_ | refine blk_alloc ?_ _)); exact BK270.out)) : gb270 ≠ gb313)); have n17_ := Aside0.mk ((by rw [hg]; exact Nat.ne_of_gt (blk_lt (g := gb270) (o := .cells #[.string a0_0, .string a0_1, .slice A0_2 l0_2.length c0_2, .slice A0_3 l0_3.length c0_3, .slice A0_4 l0_4.length c0_4, .slice A0_5 l0_5.length c0_5] 68 (0, 0)) (by (with_reducible repeat (first | refine blk_drewN ?_ _ | refine blk_drew ?_ | refine blk_alloc ?_ _)); exact BK270.out)) : gb313 ≠ gb270)); have n18_ := Aside0.mk ((by rw [hg]; exact Nat.ne_of_lt (blk_lt (g := gb271) (o := .cells #[.string a1_0, .string a1_1, .slice A1_2 l1_2.length c1_2] 40 (0, 0)) (by (with_reducible repeat (first | refine blk_drewN ?_ _ | refine blk_drew ?_ | refine blk_alloc ?_ _)); exact BK271.out)) : gb271 ≠ gb313)); have n19_ := Aside0.mk ((by rw [hg]; exact Nat.ne_of_gt (blk_lt (g := gb271) (o := .cells #[.string a1_0, .string a1_1, .slice A1_2 l1_2.length c1_2] 40 (0, 0)) (by (with_reducible repeat (first | refine blk_drewN ?_ _ | refine blk_drew ?_ | refine blk_alloc ?_ _)); exact BK271.out)) : gb313 ≠ gb271)); have n20_ := Aside0.mk ((by rw [hg]; exact Nat.ne_of_lt (blk_lt (g := gb272) (o := .cells #[.string a2_0, .string a2_1, .string a2_2] 52 (0, 0)) (by (with_reducible repeat (first | refine blk_drewN ?_ _ | refine blk_drew ?_ | refine blk_alloc ?_ _)); exact BK272.out)) : gb272 ≠ gb313)); have n21_ := Aside0.mk ((by rw [hg]; exact Nat.ne_of_gt (blk_lt (g := gb272) (o := .cells #[.string a2_0, .string a2_1, .string a2_2] 52 (0, 0)) (by (with_reducible repeat (first | refine blk_drewN ?_ _ | refine blk_drew ?_ | refine blk_alloc ?_ _)); exact BK272.out)) : gb313 ≠ gb272)); clear HO280; clear HO283; clear HO286; clear HO289; clear HO294; clear HO303; clear HO306; clear HO309; clear HO312; clear BK270; clear BK271; clear BK272; clear HB; have HO280 := n0_; have HO283 := n1_; have HO286 := n2_; have HO289 := n3_; have HO294 := n4_; have HO303 := n5_; have HO306 := n6_; have HO309 := n7_; have HO312 := n8_; have BK270 := n9_; have BK271 := n10_; have BK272 := n11_; have HB := n12_; have BK313 := n13_; have GW313 := n14_; have GE313 := n15_; have NB270_313 := n16_; have NB313_270 := n17_; have NB271_313 := n18_; have NB313_271 := n19_; have NB272_313 := n20_; have NB313_272 := n21_; clear n0_ n1_ n2_ n3_ n4_ n5_ n6_ n7_ n8_ n9_ n10_ n11_ n12_ n13_ n14_ n15_ n16_ n17_ n18_ n19_ n20_ n21_; clear hb hbox hg; have hnb52 := NB313_270.out; have hnc52 := NB270_313.out; have hnb53 := NB313_271.out; have hnc53 := NB271_313.out; have hnb54 := NB313_272.out; have hnc54 := NB272_313.out; have hcz55_0 : w51.cell? ⟨gb313, 0, none⟩ = some (.string (⟨#[]⟩ : ByteArray)) := (blk_cell BK313.out 0).trans rfl; have hcz55_1 : w51.cell? ⟨gb313, 1, none⟩ = some (.string (⟨#[]⟩ : ByteArray)) := (blk_cell BK313.out 1).trans rfl; have hcz55_2 : w51.cell? ⟨gb313, 2, none⟩ = some (.slice none 0 0) := (blk_cell BK313.out 2).trans rfl; have hcz55_3 : w51.cell? ⟨gb313, 3, none⟩ = some (.slice none 0 0) := (blk_cell BK313.out 3).trans rfl; have hcz55_4 : w51.cell? ⟨gb313, 4, none⟩ = some (.slice none 0 0) := (blk_cell BK313.out 4).trans rfl; have hcz55_5 : w51.cell? ⟨gb313, 5, none⟩ = some (.slice none 0 0) := (blk_cell BK313.out 5).trans rfl; have hfz55_0 := blk_frozen BK313.out 0; have hfz55_1 := blk_frozen BK313.out 1; have hfz55_2 := blk_frozen BK313.out 2; have hfz55_3 := blk_frozen BK313.out 3; have hfz55_4 := blk_frozen BK313.out 4; have hfz55_5 := blk_frozen BK313.out 5; obtain ⟨Ao56, co56, eo56⟩ := Kd.S_slice HO303.out; subst eo56; obtain ⟨Ao57, co57, eo57⟩ := Kd.R_slice HO306.out; subst eo57; obtain ⟨Ao58, co58, eo58⟩ := Kd.S_slice HO309.out; subst eo58; obtain ⟨Ao59, co59, eo59⟩ := Kd.S_slice HO312.out; subst eo59; have hnb60 := NB271_272.out; have hnc60 := NB272_271.out; have hcz61_0 : w51.cell? ⟨gb271, 0, none⟩ = some (.string a1_0) := (blk_cell BK271.out 0).trans rfl; have hcz61_1 : w51.cell? ⟨gb271, 1, none⟩ = some (.string a1_1) := (blk_cell BK271.out 1).trans rfl; have hcz61_2 : w51.cell? ⟨gb271, 2, none⟩ = some (.slice A1_2 l1_2.length c1_2) := (blk_cell BK271.out 2).trans rfl; have hfz61_0 := blk_frozen BK271.out 0; have hfz61_1 := blk_frozen BK271.out 1; have hfz61_2 := blk_frozen BK271.out 2) | ((with_reducible refine gate_callee (f := 26) rfl ?_); refine goesL_ (some 37) rfl rfl Try.func26 (by kernel_rfl) rfl #[.agg #[.string a1_0, .string a1_1, .slice A1_2 l1_2.length c1_2]] rfl (by (try simp only [List.map_toArray, List.map_cons, List.map_nil]); first | done | rfl | (simp only [List.length_drop, List.length_take]; rfl)) ?_; (with_reducible refine (laws_toState.calls k a1_0 a1_1 _ _ l1_2 t314 t315 t316 _ ?side1 ?side2 A33.out).mono ?_); (case side1 => exact Kd.C_below HR1_2.out (by repeat (first | (with_reducible first | exact HB.out | apply below_alloc | apply pw_below_drewN | apply below_drew1 | refine below_set ?_ GE270.out | refine below_set ?_ GE271.out | refine below_set ?_ GE272.out | refine below_set ?_ GE313.out) | exact HB.out))); (case side2 => exact HC1_2.out); rintro e w62 ⟨v317, rfl, ho0, hb⟩; refine ⟨_, rfl, ?_⟩; have n0_ := Aside0.mk (Kd.S_elder' (by (with_reducible repeat (first | apply Kd.S_alloc | apply Kd.S_drewN | apply Kd.S_drew)); exact (Kd.S_mono (Kd.S_far (p := ⟨gb313, 5, none⟩) (Kd.S_far (p := ⟨gb313, 4, none⟩) (Kd.S_far (p := ⟨gb313, 3, none⟩) (Kd.S_far (p := ⟨gb313, 2, none⟩) (Kd.S_far (p := ⟨gb313, 1, none⟩) (Kd.S_far (p := ⟨gb313, 0, none⟩) (Kd.S_types HO280.out BK313.out (by decide)) (fun _ hk => hk.2) (.string t299)) (fun _ hk => hk.2) (.string t300)) (fun _ hk => hk.2) (.slice Ao56 t301.length co56)) (fun _ hk => hk.2) (.slice Ao57 t304.length co57)) (fun _ hk => hk.2) (.slice Ao58 t307.length co58)) (fun _ hk => hk.2) (.slice Ao59 t310.length co59)) (fun _ h_ => h_.1))) (Kd.R_base ho0) hb); have n1_ := Aside0.mk (Kd.R_elder' (by (with_reducible repeat (first | apply Kd.R_alloc | apply Kd.R_drewN | apply Kd.R_drew)); exact (Kd.R_mono (Kd.R_far (p := ⟨gb313, 5, none⟩) (Kd.R_far (p := ⟨gb313, 4, none⟩) (Kd.R_far (p := ⟨gb313, 3, none⟩) (Kd.R_far (p := ⟨gb313, 2, none⟩) (Kd.R_far (p := ⟨gb313, 1, none⟩) (Kd.R_far (p := ⟨gb313, 0, none⟩) (Kd.R_types HO283.out BK313.out (by decide)) (fun _ hk => hk.2) (.string t299)) (fun _ hk => hk.2) (.string t300)) (fun _ hk => hk.2) (.slice Ao56 t301.length co56)) (fun _ hk => hk.2) (.slice Ao57 t304.length co57)) (fun _ hk => hk.2) (.slice Ao58 t307.length co58)) (fun _ hk => hk.2) (.slice Ao59 t310.length co59)) (fun _ h_ => h_.1))) (Kd.R_base ho0) hb); have n2_ := Aside0.mk (Kd.S_elder' (by (with_reducible repeat (first | apply Kd.S_alloc | apply Kd.S_drewN | apply Kd.S_drew)); exact (Kd.S_mono (Kd.S_far (p := ⟨gb313, 5, none⟩) (Kd.S_far (p := ⟨gb313, 4, none⟩) (Kd.S_far (p := ⟨gb313, 3, none⟩) (Kd.S_far (p := ⟨gb313, 2, none⟩) (Kd.S_far (p := ⟨gb313, 1, none⟩) (Kd.S_far (p := ⟨gb313, 0, none⟩) (Kd.S_types HO286.out BK313.out (by decide)) (fun _ hk => hk.2) (.string t299)) (fun _ hk => hk.2) (.string t300)) (fun _ hk => hk.2) (.slice Ao56 t301.length co56)) (fun _ hk => hk.2) (.slice Ao57 t304.length co57)) (fun _ hk => hk.2) (.slice Ao58 t307.length co58)) (fun _ hk => hk.2) (.slice Ao59 t310.length co59)) (fun _ h_ => h_.1))) (Kd.R_base ho0) hb); have n3_ := Aside0.mk (Kd.S_elder' (by (with_reducible repeat (first | apply Kd.S_alloc | apply Kd.S_drewN | apply Kd.S_drew)); exact (Kd.S_mono (Kd.S_far (p := ⟨gb313, 5, none⟩) (Kd.S_far (p := ⟨gb313, 4, none⟩) (Kd.S_far (p := ⟨gb313, 3, none⟩) (Kd.S_far (p := ⟨gb313, 2, none⟩) (Kd.S_far (p := ⟨gb313, 1, none⟩) (Kd.S_far (p := ⟨gb313, 0, none⟩) (Kd.S_types HO289.out BK313.out (by decide)) (fun _ hk => hk.2) (.string t299)) (fun _ hk => hk.2) (.string t300)) (fun _ hk => hk.2) (.slice Ao56 t301.length co56)) (fun _ hk => hk.2) (.slice Ao57 t304.length co57)) (fun _ hk => hk.2) (.slice Ao58 t307.length co58)) (fun _ hk => hk.2) (.slice Ao59 t310.length co59)) (fun _ h_ => h_.1))) (Kd.R_base ho0) hb); have n4_ := Aside0.mk (Kd.R_elder' (by (with_reducible repeat (first | apply Kd.R_alloc | apply Kd.R_drewN | apply Kd.R_drew)); exact (Kd.R_mono (Kd.R_far (p := ⟨gb313, 5, none⟩) (Kd.R_far (p := ⟨gb313, 4, none⟩) (Kd.R_far (p := ⟨gb313, 3, none⟩) (Kd.R_far (p := ⟨gb313, 2, none⟩) (Kd.R_far (p := ⟨gb313, 1, none⟩) (Kd.R_far (p := ⟨gb313, 0, none⟩) (Kd.R_types HO294.out BK313.out (by decide)) (fun _ hk => hk.2) (.string t299)) (fun _ hk => hk.2) (.string t300)) (fun _ hk => hk.2) (.slice Ao56 t301.length co56)) (fun _ hk => hk.2) (.slice Ao57 t304.length co57)) (fun _ hk => hk.2) (.slice Ao58 t307.length co58)) (fun _ hk => hk.2) (.slice Ao59 t310.length co59)) (fun _ h_ => h_.1))) (Kd.R_base ho0) hb); have n5_ := Aside0.mk (Kd.S_elder' (by (with_reducible repeat (first | apply Kd.S_alloc | apply Kd.S_drewN | apply Kd.S_drew)); exact (Kd.S_mono (Kd.S_far (p := ⟨gb313, 5, none⟩) (Kd.S_far (p := ⟨gb313, 4, none⟩) (Kd.S_far (p := ⟨gb313, 3, none⟩) (Kd.S_far (p := ⟨gb313, 2, none⟩) (Kd.S_far (p := ⟨gb313, 1, none⟩) (Kd.S_far (p := ⟨gb313, 0, none⟩) (Kd.S_types HO303.out BK313.out (by decide)) (fun _ hk => hk.2) (.string t299)) (fun _ hk => hk.2) (.string t300)) (fun _ hk => hk.2) (.slice Ao56 t301.length co56)) (fun _ hk => hk.2) (.slice Ao57 t304.length co57)) (fun _ hk => hk.2) (.slice Ao58 t307.length co58)) (fun _ hk => hk.2) (.slice Ao59 t310.length co59)) (fun _ h_ => h_.1))) (Kd.R_base ho0) hb); have n6_ := Aside0.mk (Kd.R_elder' (by (with_reducible repeat (first | apply Kd.R_alloc | apply Kd.R_drewN | apply Kd.R_drew)); exact (Kd.R_mono (Kd.R_far (p := ⟨gb313, 5, none⟩) (Kd.R_far (p := ⟨gb313, 4, none⟩) (Kd.R_far (p := ⟨gb313, 3, none⟩) (Kd.R_far (p := ⟨gb313, 2, none⟩) (Kd.R_far (p := ⟨gb313, 1, none⟩) (Kd.R_far (p := ⟨gb313, 0, none⟩) (Kd.R_types HO306.out BK313.out (by decide)) (fun _ hk => hk.2) (.string t299)) (fun _ hk => hk.2) (.string t300)) (fun _ hk => hk.2) (.slice Ao56 t301.length co56)) (fun _ hk => hk.2) (.slice Ao57 t304.length co57)) (fun _ hk => hk.2) (.slice Ao58 t307.length co58)) (fun _ hk => hk.2) (.slice Ao59 t310.length co59)) (fun _ h_ => h_.1))) (Kd.R_base ho0) hb); have n7_ := Aside0.mk (Kd.S_elder' (by (with_reducible repeat (first | apply Kd.S_alloc | apply Kd.S_drewN | apply Kd.S_drew)); exact (Kd.S_mono (Kd.S_far (p := ⟨gb313, 5, none⟩) (Kd.S_far (p := ⟨gb313, 4, none⟩) (Kd.S_far (p := ⟨gb313, 3, none⟩) (Kd.S_far (p := ⟨gb313, 2, none⟩) (Kd.S_far (p := ⟨gb313, 1, none⟩) (Kd.S_far (p := ⟨gb313, 0, none⟩) (Kd.S_types HO309.out BK313.out (by decide)) (fun _ hk => hk.2) (.string t299)) (fun _ hk => hk.2) (.string t300)) (fun _ hk => hk.2) (.slice Ao56 t301.length co56)) (fun _ hk => hk.2) (.slice Ao57 t304.length co57)) (fun _ hk => hk.2) (.slice Ao58 t307.length co58)) (fun _ hk => hk.2) (.slice Ao59 t310.length co59)) (fun _ h_ => h_.1))) (Kd.R_base ho0) hb); have n8_ := Aside0.mk (Kd.S_elder' (by (with_reducible repeat (first | apply Kd.S_alloc | apply Kd.S_drewN | apply Kd.S_drew)); exact (Kd.S_mono (Kd.S_far (p := ⟨gb313, 5, none⟩) (Kd.S_far (p := ⟨gb313, 4, none⟩) (Kd.S_far (p := ⟨gb313, 3, none⟩) (Kd.S_far (p := ⟨gb313, 2, none⟩) (Kd.S_far (p := ⟨gb313, 1, none⟩) (Kd.S_far (p := ⟨gb313, 0, none⟩) (Kd.S_types HO312.out BK313.out (by decide)) (fun _ hk => hk.2) (.string t299)) (fun _ hk => hk.2) (.string t300)) (fun _ hk => hk.2) (.slice Ao56 t301.length co56)) (fun _ hk => hk.2) (.slice Ao57 t304.length co57)) (fun _ hk => hk.2) (.slice Ao58 t307.length co58)) (fun _ hk => hk.2) (.slice Ao59 t310.length co59)) (fun _ h_ => h_.1))) (Kd.R_base ho0) hb); have n9_ := Aside0.mk (Kd.R_lower (Kd.R_new' (Kd.R_new' (Kd.R_new' ho0 (Kd.R_lt (by (with_reducible repeat (first | apply Kd.R_alloc | apply Kd.R_drewN | apply Kd.R_drew)); exact (Kd.R_mono (Kd.R_far (p := ⟨gb313, 5, none⟩) (Kd.R_far (p := ⟨gb313, 4, none⟩) (Kd.R_far (p := ⟨gb313, 3, none⟩) (Kd.R_far (p := ⟨gb313, 2, none⟩) (Kd.R_far (p := ⟨gb313, 1, none⟩) (Kd.R_far (p := ⟨gb313, 0, none⟩) (Kd.R_types HO283.out BK313.out (by decide)) (fun _ hk => hk.2) (.string t299)) (fun _ hk => hk.2) (.string t300)) (fun _ hk => hk.2) (.slice Ao56 t301.length co56)) (fun _ hk => hk.2) (.slice Ao57 t304.length co57)) (fun _ hk => hk.2) (.slice Ao58 t307.length co58)) (fun _ hk => hk.2) (.slice Ao59 t310.length co59)) (fun _ h_ => h_.1))))) (Kd.R_lt (by (with_reducible repeat (first | apply Kd.R_alloc | apply Kd.R_drewN | apply Kd.R_drew)); exact (Kd.R_mono (Kd.R_far (p := ⟨gb313, 5, none⟩) (Kd.R_far (p := ⟨gb313, 4, none⟩) (Kd.R_far (p := ⟨gb313, 3, none⟩) (Kd.R_far (p := ⟨gb313, 2, none⟩) (Kd.R_far (p := ⟨gb313, 1, none⟩) (Kd.R_far (p := ⟨gb313, 0, none⟩) (Kd.R_types HO294.out BK313.out (by decide)) (fun _ hk => hk.2) (.string t299)) (fun _ hk => hk.2) (.string t300)) (fun _ hk => hk.2) (.slice Ao56 t301.length co56)) (fun _ hk => hk.2) (.slice Ao57 t304.length co57)) (fun _ hk => hk.2) (.slice Ao58 t307.length co58)) (fun _ hk => hk.2) (.slice Ao59 t310.length co59)) (fun _ h_ => h_.1))))) (Kd.R_lt (by (with_reducible repeat (first | apply Kd.R_alloc | apply Kd.R_drewN | apply Kd.R_drew)); exact (Kd.R_mono (Kd.R_far (p := ⟨gb313, 5, none⟩) (Kd.R_far (p := ⟨gb313, 4, none⟩) (Kd.R_far (p := ⟨gb313, 3, none⟩) (Kd.R_far (p := ⟨gb313, 2, none⟩) (Kd.R_far (p := ⟨gb313, 1, none⟩) (Kd.R_far (p := ⟨gb313, 0, none⟩) (Kd.R_types HO306.out BK313.out (by decide)) (fun _ hk => hk.2) (.string t299)) (fun _ hk => hk.2) (.string t300)) (fun _ hk => hk.2) (.slice Ao56 t301.length co56)) (fun _ hk => hk.2) (.slice Ao57 t304.length co57)) (fun _ hk => hk.2) (.slice Ao58 t307.length co58)) (fun _ hk => hk.2) (.slice Ao59 t310.length co59)) (fun _ h_ => h_.1))))) (below_size (by repeat (first | (with_reducible first | exact HB.out | apply below_alloc | apply pw_below_drewN | apply below_drew1 | refine below_set ?_ GE270.out | refine below_set ?_ GE271.out | refine below_set ?_ GE272.out | refine below_set ?_ GE313.out) | exact HB.out)))); have n10_ := Aside0.mk (blk_below (g := gb270) (o := .cells #[.string a0_0, .string a0_1, .slice A0_2 l0_2.length c0_2, .slice A0_3 l0_3.length c0_3, .slice A0_4 l0_4.length c0_4, .slice A0_5 l0_5.length c0_5] 68 (0, 0)) (by (with_reducible repeat (first | refine blk_drewN ?_ _ | refine blk_drew ?_ | refine blk_alloc ?_ _)); refine blk_far ?_ NB270_313.out _; (with_reducible repeat (first | refine blk_drewN ?_ _ | refine blk_drew ?_ | refine blk_alloc ?_ _)); refine blk_far ?_ NB270_313.out _; (with_reducible repeat (first | refine blk_drewN ?_ _ | refine blk_drew ?_ | refine blk_alloc ?_ _)); refine blk_far ?_ NB270_313.out _; (with_reducible repeat (first | refine blk_drewN ?_ _ | refine blk_drew ?_ | refine blk_alloc ?_ _)); refine blk_far ?_ NB270_313.out _; (with_reducible repeat (first | refine blk_drewN ?_ _ | refine blk_drew ?_ | refine blk_alloc ?_ _)); refine blk_far ?_ NB270_313.out _; (with_reducible repeat (first | refine blk_drewN ?_ _ | refine blk_drew ?_ | refine blk_alloc ?_ _)); refine blk_far ?_ NB270_313.out _; (with_reducible repeat (first | refine blk_drewN ?_ _ | refine blk_drew ?_ | refine blk_alloc ?_ _)); exact BK270.out) hb); have n11_ := Aside0.mk (blk_below (g := gb271) (o := .cells #[.string a1_0, .string a1_1, .slice A1_2 l1_2.length c1_2] 40 (0, 0)) (by (with_reducible repeat (first | refine blk_drewN ?_ _ | refine blk_drew ?_ | refine blk_alloc ?_ _)); refine blk_far ?_ NB271_313.out _; (with_reducible repeat (first | refine blk_drewN ?_ _ | refine blk_drew ?_ | refine blk_alloc ?_ _)); refine blk_far ?_ NB271_313.out _; (with_reducible repeat (first | refine blk_drewN ?_ _ | refine blk_drew ?_ | refine blk_alloc ?_ _)); refine blk_far ?_ NB271_313.out _; (with_reducible repeat (first | refine blk_drewN ?_ _ | refine blk_drew ?_ | refine blk_alloc ?_ _)); refine blk_far ?_ NB271_313.out _; (with_reducible repeat (first | refine blk_drewN ?_ _ | refine blk_drew ?_ | refine blk_alloc ?_ _)); refine blk_far ?_ NB271_313.out _; (with_reducible repeat (first | refine blk_drewN ?_ _ | refine blk_drew ?_ | refine blk_alloc ?_ _)); refine blk_far ?_ NB271_313.out _; (with_reducible repeat (first | refine blk_drewN ?_ _ | refine blk_drew ?_ | refine blk_alloc ?_ _)); exact BK271.out) hb); have n12_ := Aside0.mk (blk_below (g := gb272) (o := .cells #[.string a2_0, .string a2_1, .string a2_2] 52 (0, 0)) (by (with_reducible repeat (first | refine blk_drewN ?_ _ | refine blk_drew ?_ | refine blk_alloc ?_ _)); refine blk_far ?_ NB272_313.out _; (with_reducible repeat (first | refine blk_drewN ?_ _ | refine blk_drew ?_ | refine blk_alloc ?_ _)); refine blk_far ?_ NB272_313.out _; (with_reducible repeat (first | refine blk_drewN ?_ _ | refine blk_drew ?_ | refine blk_alloc ?_ _)); refine blk_far ?_ NB272_313.out _; (with_reducible repeat (first | refine blk_drewN ?_ _ | refine blk_drew ?_ | refine blk_alloc ?_ _)); refine blk_far ?_ NB272_313.out _; (with_reducible repeat (first | refine blk_drewN ?_ _ | refine blk_drew ?_ | refine blk_alloc ?_ _)); refine blk_far ?_ NB272_313.out _; (with_reducible repeat (first | refine blk_drewN ?_ _ | refine blk_drew ?_ | refine blk_alloc ?_ _)); refine blk_far ?_ NB272_313.out _; (with_reducible repeat (first | refine blk_drewN ?_ _ | refine blk_drew ?_ | refine blk_alloc ?_ _)); exact BK272.out) hb); have n13_ := Aside0.mk (blk_below (g := gb313) (o := .cells #[.string t299, .string t300, .slice Ao56 t301.length co56, .slice Ao57 t304.length co57, .slice Ao58 t307.length co58, .slice Ao59 t310.length co59] 75 (0, 0)) (by (with_reducible repeat (first | refine blk_drewN ?_ _ | refine blk_drew ?_ | refine blk_alloc ?_ _)); refine blk_put (cs := #[.string t299, .string t300, .slice Ao56 t301.length co56, .slice Ao57 t304.length co57, .slice Ao58 t307.length co58, .slice none 0 0]) ?_ 5 _ rfl; (with_reducible repeat (first | refine blk_drewN ?_ _ | refine blk_drew ?_ | refine blk_alloc ?_ _)); refine blk_put (cs := #[.string t299, .string t300, .slice Ao56 t301.length co56, .slice Ao57 t304.length co57, .slice none 0 0, .slice none 0 0]) ?_ 4 _ rfl; (with_reducible repeat (first | refine blk_drewN ?_ _ | refine blk_drew ?_ | refine blk_alloc ?_ _)); refine blk_put (cs := #[.string t299, .string t300, .slice Ao56 t301.length co56, .slice none 0 0, .slice none 0 0, .slice none 0 0]) ?_ 3 _ rfl; (with_reducible repeat (first | refine blk_drewN ?_ _ | refine blk_drew ?_ | refine blk_alloc ?_ _)); refine blk_put (cs := #[.string t299, .string t300, .slice none 0 0, .slice none 0 0, .slice none 0 0, .slice none 0 0]) ?_ 2 _ rfl; (with_reducible repeat (first | refine blk_drewN ?_ _ | refine blk_drew ?_ | refine blk_alloc ?_ _)); refine blk_put (cs := #[.string t299, .string (⟨#[]⟩ : ByteArray), .slice none 0 0, .slice none 0 0, .slice none 0 0, .slice none 0 0]) ?_ 1 _ rfl; (with_reducible repeat (first | refine blk_drewN ?_ _ | refine blk_drew ?_ | refine blk_alloc ?_ _)); refine blk_put (cs := #[.string (⟨#[]⟩ : ByteArray), .string (⟨#[]⟩ : ByteArray), .slice none 0 0, .slice none 0 0, .slice none 0 0, .slice none 0 0]) ?_ 0 _ rfl; (with_reducible repeat (first | refine blk_drewN ?_ _ | refine blk_drew ?_ | refine blk_alloc ?_ _)); exact BK313.out) hb); have n14_ := Aside0.mk (below_step (by repeat (first | (with_reducible first | exact HB.out | apply below_alloc | apply pw_below_drewN | apply below_drew1 | refine below_set ?_ GE270.out | refine below_set ?_ GE271.out | refine below_set ?_ GE272.out | refine below_set ?_ GE313.out) | exact HB.out)) hb); clear HO280; clear HO283; clear HO286; clear HO289; clear HO294; clear HO303; clear HO306; clear HO309; clear HO312; clear BK270; clear BK271; clear BK272; clear BK313; clear HB; have HO280 := n0_; have HO283 := n1_; have HO286 := n2_; have HO289 := n3_; have HO294 := n4_; have HO303 := n5_; have HO306 := n6_; have HO309 := n7_; have HO312 := n8_; have HO318 := n9_; have BK270 := n10_; have BK271 := n11_; have BK272 := n12_; have BK313 := n13_; have HB := n14_; clear n0_ n1_ n2_ n3_ n4_ n5_ n6_ n7_ n8_ n9_ n10_ n11_ n12_ n13_ n14_; (try clear hb); (try clear hb2); (try clear hk); (try clear hi); (try clear ho0)) | ((with_reducible refine gate_dst (N := 10) rfl ?_); refine box_event ?hg (N := 10) ?hd (cs := #[.string (⟨#[]⟩ : ByteArray), .string (⟨#[]⟩ : ByteArray), .slice none 0 0]) (t := 46) ?hr ?_; (case hd => rfl); (case hg => rfl); (case hr => first | (go_simp; done) | (go_simp; rfl)); intro gb319 hg w63 hbox hb; have n0_ := Aside0.mk (Kd.S_below (by (with_reducible repeat (first | apply Kd.S_alloc | apply Kd.S_drewN | apply Kd.S_drew)); exact HO280.out) hb); have n1_ := Aside0.mk (Kd.R_below (by (with_reducible repeat (first | apply Kd.R_alloc | apply Kd.R_drewN | apply Kd.R_drew)); exact HO283.out) hb); have n2_ := Aside0.mk (Kd.S_below (by (with_reducible repeat (first | apply Kd.S_alloc | apply Kd.S_drewN | apply Kd.S_drew)); exact HO286.out) hb); have n3_ := Aside0.mk (Kd.S_below (by (with_reducible repeat (first | apply Kd.S_alloc | apply Kd.S_drewN | apply Kd.S_drew)); exact HO289.out) hb); have n4_ := Aside0.mk (Kd.R_below (by (with_reducible repeat (first | apply Kd.R_alloc | apply Kd.R_drewN | apply Kd.R_drew)); exact HO294.out) hb); have n5_ := Aside0.mk (Kd.S_below (by (with_reducible repeat (first | apply Kd.S_alloc | apply Kd.S_drewN | apply Kd.S_drew)); exact HO303.out) hb); have n6_ := Aside0.mk (Kd.R_below (by (with_reducible repeat (first | apply Kd.R_alloc | apply Kd.R_drewN | apply Kd.R_drew)); exact HO306.out) hb); have n7_ := Aside0.mk (Kd.S_below (by (with_reducible repeat (first | apply Kd.S_alloc | apply Kd.S_drewN | apply Kd.S_drew)); exact HO309.out) hb); have n8_ := Aside0.mk (Kd.S_below (by (with_reducible repeat (first | apply Kd.S_alloc | apply Kd.S_drewN | apply Kd.S_drew)); exact HO312.out) hb); have n9_ := Aside0.mk (Kd.R_below (by (with_reducible repeat (first | apply Kd.R_alloc | apply Kd.R_drewN | apply Kd.R_drew)); exact HO318.out) hb); have n10_ := Aside0.mk (blk_below (g := gb270) (o := .cells #[.string a0_0, .string a0_1, .slice A0_2 l0_2.length c0_2, .slice A0_3 l0_3.length c0_3, .slice A0_4 l0_4.length c0_4, .slice A0_5 l0_5.length c0_5] 68 (0, 0)) (by (with_reducible repeat (first | refine blk_drewN ?_ _ | refine blk_drew ?_ | refine blk_alloc ?_ _)); exact BK270.out) hb); have n11_ := Aside0.mk (blk_below (g := gb271) (o := .cells #[.string a1_0, .string a1_1, .slice A1_2 l1_2.length c1_2] 40 (0, 0)) (by (with_reducible repeat (first | refine blk_drewN ?_ _ | refine blk_drew ?_ | refine blk_alloc ?_ _)); exact BK271.out) hb); have n12_ := Aside0.mk (blk_below (g := gb272) (o := .cells #[.string a2_0, .string a2_1, .string a2_2] 52 (0, 0)) (by (with_reducible repeat (first | refine blk_drewN ?_ _ | refine blk_drew ?_ | refine blk_alloc ?_ _)); exact BK272.out) hb); have n13_ := Aside0.mk (blk_below (g := gb313) (o := .cells #[.string t299, .string t300, .slice Ao56 t301.length co56, .slice Ao57 t304.length co57, .slice Ao58 t307.length co58, .slice Ao59 t310.length co59] 75 (0, 0)) (by (with_reducible repeat (first | refine blk_drewN ?_ _ | refine blk_drew ?_ | refine blk_alloc ?_ _)); exact BK313.out) hb); have n14_ := Aside0.mk (below_step (by repeat (first | (with_reducible first | exact HB.out | apply below_alloc | apply pw_below_drewN | apply below_drew1 | refine below_set ?_ GE270.out | refine below_set ?_ GE271.out | refine below_set ?_ GE272.out | refine below_set ?_ GE313.out) | exact HB.out)) hb); have n15_ := Aside0.mk (hbox); have n16_ := Aside0.mk ((by rw [hg]; exact (below_size (by repeat (first | (with_reducible first | exact HB.out | apply below_alloc | apply pw_below_drewN | apply below_drew1 | refine below_set ?_ GE270.out | refine below_set ?_ GE271.out | refine below_set ?_ GE272.out | refine below_set ?_ GE313.out) | exact HB.out))) : w.heap.size ≤ gb319)); have n17_ := Aside0.mk ((by rw [hg]; exact (below_size (by repeat (first | (with_reducible first | exact HB.out | apply below_alloc | apply pw_below_drewN | apply below_drew1 | refine below_set ?_ GE270.out | refine below_set ?_ GE271.out | refine below_set ?_ GE272.out | refine below_set ?_ GE313.out) | exact HB.out))) : w.heap.size ≤ gb319)); have n18_ := Aside0.mk ((by rw [hg]; exact Nat.ne_of_lt (blk_lt (g := gb270) (o := .cells #[.string a0_0, .string a0_1, .slice A0_2 l0_2.length c0_2, .slice A0_3 l0_3.length c0_3, .slice A0_4 l0_4.length c0_4, .slice A0_5 l0_5.length c0_5] 68 (0, 0)) (by (with_reducible repeat (first | refine blk_drewN ?_ _ | refine blk_drew ?_ | refine blk_alloc ?_ _)); exact BK270.out)) : gb270 ≠ gb319)); have n19_ := Aside0.mk ((by rw [hg]; exact Nat.ne_of_gt (blk_lt (g := gb270) (o := .cells #[.string a0_0, .string a0_1, .slice A0_2 l0_2.length c0_2, .slice A0_3 l0_3.length c0_3, .slice A0_4 l0_4.length c0_4, .slice A0_5 l0_5.length c0_5] 68 (0, 0)) (by (with_reducible repeat (first | refine blk_drewN ?_ _ | refine blk_drew ?_ | refine blk_alloc ?_ _)); exact BK270.out)) : gb319 ≠ gb270)); have n20_ := Aside0.mk ((by rw [hg]; exact Nat.ne_of_lt (blk_lt (g := gb271) (o := .cells #[.string a1_0, .string a1_1, .slice A1_2 l1_2.length c1_2] 40 (0, 0)) (by (with_reducible repeat (first | refine blk_drewN ?_ _ | refine blk_drew ?_ | refine blk_alloc ?_ _)); exact BK271.out)) : gb271 ≠ gb319)); have n21_ := Aside0.mk ((by rw [hg]; exact Nat.ne_of_gt (blk_lt (g := gb271) (o := .cells #[.string a1_0, .string a1_1, .slice A1_2 l1_2.length c1_2] 40 (0, 0)) (by (with_reducible repeat (first | refine blk_drewN ?_ _ | refine blk_drew ?_ | refine blk_alloc ?_ _)); exact BK271.out)) : gb319 ≠ gb271)); have n22_ := Aside0.mk ((by rw [hg]; exact Nat.ne_of_lt (blk_lt (g := gb272) (o := .cells #[.string a2_0, .string a2_1, .string a2_2] 52 (0, 0)) (by (with_reducible repeat (first | refine blk_drewN ?_ _ | refine blk_drew ?_ | refine blk_alloc ?_ _)); exact BK272.out)) : gb272 ≠ gb319)); have n23_ := Aside0.mk ((by rw [hg]; exact Nat.ne_of_gt (blk_lt (g := gb272) (o := .cells #[.string a2_0, .string a2_1, .string a2_2] 52 (0, 0)) (by (with_reducible repeat (first | refine blk_drewN ?_ _ | refine blk_drew ?_ | refine blk_alloc ?_ _)); exact BK272.out)) : gb319 ≠ gb272)); have n24_ := Aside0.mk ((by rw [hg]; exact Nat.ne_of_lt (blk_lt (g := gb313) (o := .cells #[.string t299, .string t300, .slice Ao56 t301.length co56, .slice Ao57 t304.length co57, .slice Ao58 t307.length co58, .slice Ao59 t310.length co59] 75 (0, 0)) (by (with_reducible repeat (first | refine blk_drewN ?_ _ | refine blk_drew ?_ | refine blk_alloc ?_ _)); exact BK313.out)) : gb313 ≠ gb319)); have n25_ := Aside0.mk ((by rw [hg]; exact Nat.ne_of_gt (blk_lt (g := gb313) (o := .cells #[.string t299, .string t300, .slice Ao56 t301.length co56, .slice Ao57 t304.length co57, .slice Ao58 t307.length co58, .slice Ao59 t310.length co59] 75 (0, 0)) (by (with_reducible repeat (first | refine blk_drewN ?_ _ | refine blk_drew ?_ | refine blk_alloc ?_ _)); exact BK313.out)) : gb319 ≠ gb313)); clear HO280; clear HO283; clear HO286; clear HO289; clear HO294; clear HO303; clear HO306; clear HO309; clear HO312; clear HO318; clear BK270; clear BK271; clear BK272; clear BK313; clear HB; have HO280 := n0_; have HO283 := n1_; have HO286 := n2_; have HO289 := n3_; have HO294 := n4_; have HO303 := n5_; have HO306 := n6_; have HO309 := n7_; have HO312 := n8_; have HO318 := n9_; have BK270 := n10_; have BK271 := n11_; have BK272 := n12_; have BK313 := n13_; have HB := n14_; have BK319 := n15_; have GW319 := n16_; have GE319 := n17_; have NB270_319 := n18_; have NB319_270 := n19_; have NB271_319 := n20_; have NB319_271 := n21_; have NB272_319 := n22_; have NB319_272 := n23_; have NB313_319 := n24_; have NB319_313 := n25_; clear n0_ n1_ n2_ n3_ n4_ n5_ n6_ n7_ n8_ n9_ n10_ n11_ n12_ n13_ n14_ n15_ n16_ n17_ n18_ n19_ n20_ n21_ n22_ n23_ n24_ n25_; clear hb hbox hg; have hnb64 := NB319_270.out; have hnc64 := NB270_319.out; have hnb65 := NB319_271.out; have hnc65 := NB271_319.out; have hnb66 := NB319_272.out; have hnc66 := NB272_319.out; have hnb67 := NB319_313.out; have hnc67 := NB313_319.out; have hcz68_0 : w63.cell? ⟨gb319, 0, none⟩ = some (.string (⟨#[]⟩ : ByteArray)) := (blk_cell BK319.out 0).trans rfl; have hcz68_1 : w63.cell? ⟨gb319, 1, none⟩ = some (.string (⟨#[]⟩ : ByteArray)) := (blk_cell BK319.out 1).trans rfl; have hcz68_2 : w63.cell? ⟨gb319, 2, none⟩ = some (.slice none 0 0) := (blk_cell BK319.out 2).trans rfl; have hfz68_0 := blk_frozen BK319.out 0; have hfz68_1 := blk_frozen BK319.out 1; have hfz68_2 := blk_frozen BK319.out 2; obtain ⟨Ao69, co69, eo69⟩ := Kd.R_slice HO318.out; subst eo69))
        have n0_ : Aside0 (Kd.S (Kd.slice 3 (Kd.int .i64)) 38 (((w63.setCell ⟨gb319, 0, none⟩ (.string t314)).setCell ⟨gb319, 1, none⟩ (.string t315)).setCell ⟨gb319, 2, none⟩ (.slice Ao69 t316.length co69)) w.heap.size (fun k_ => some k_ ≠ (.slice Ao42 t281.length co42 : Value).ownBlock ∧ some k_ ≠ (.slice Ao43 t284.length co43 : Value).ownBlock ∧ some k_ ≠ (.slice Ao44 t287.length co44 : Value).ownBlock ∧ some k_ ≠ (.slice Ao45 t292.length co45 : Value).ownBlock ∧ some k_ ≠ (.slice Ao56 t301.length co56 : Value).ownBlock ∧ some k_ ≠ (.slice Ao57 t304.length co57 : Value).ownBlock ∧ some k_ ≠ (.slice Ao58 t307.length co58 : Value).ownBlock ∧ some k_ ≠ (.slice Ao59 t310.length co59 : Value).ownBlock ∧ some k_ ≠ (.slice Ao69 t316.length co69 : Value).ownBlock) (.slice Ao41 t278.length co41) t278) := ⟨by (with_reducible repeat (first | apply Kd.S_alloc | apply Kd.S_drewN | apply Kd.S_drew)); exact Kd.S_mono (Kd.S_far (p := ⟨gb319, 2, none⟩) (Kd.S_far (p := ⟨gb319, 1, none⟩) (Kd.S_far (p := ⟨gb319, 0, none⟩) (Kd.S_types HO280.out BK319.out (by decide)) (fun _ hk => hk.2) (.string t314)) (fun _ hk => hk.2) (.string t315)) (fun _ hk => hk.2) (.slice Ao69 t316.length co69)) (fun _ hk => ⟨hk.1.1.1.1.1.1.1.1, ⟨hk.1.1.1.1.1.1.1.2.1, ⟨hk.1.1.1.1.1.1.1.2.2, ⟨hk.1.1.1.1.1.1.2, ⟨hk.1.1.1.1.1.2, ⟨hk.1.1.1.1.2, ⟨hk.1.1.1.2, ⟨hk.1.1.2, hk.1.2⟩⟩⟩⟩⟩⟩⟩⟩)⟩
        have n1_ : Aside0 (Kd.R (Kd.int .i64) 3 (((w63.setCell ⟨gb319, 0, none⟩ (.string t314)).setCell ⟨gb319, 1, none⟩ (.string t315)).setCell ⟨gb319, 2, none⟩ (.slice Ao69 t316.length co69)) w.heap.size (fun k_ => some k_ ≠ (.slice Ao45 t292.length co45 : Value).ownBlock ∧ some k_ ≠ (.slice Ao57 t304.length co57 : Value).ownBlock ∧ some k_ ≠ (.slice Ao69 t316.length co69 : Value).ownBlock) (.slice Ao42 t281.length co42) t281) := ⟨by (with_reducible repeat (first | apply Kd.R_alloc | apply Kd.R_drewN | apply Kd.R_drew)); exact Kd.R_mono (Kd.R_far (p := ⟨gb319, 2, none⟩) (Kd.R_far (p := ⟨gb319, 1, none⟩) (Kd.R_far (p := ⟨gb319, 0, none⟩) (Kd.R_types HO283.out BK319.out (by decide)) (fun _ hk => hk.2) (.string t314)) (fun _ hk => hk.2) (.string t315)) (fun _ hk => hk.2) (.slice Ao69 t316.length co69)) (fun _ hk => ⟨hk.1.1.1.2, ⟨hk.1.1.2, hk.1.2⟩⟩)⟩
        have n2_ : Aside0 (Kd.S (Kd.slice 3 (Kd.int .i64)) 38 (((w63.setCell ⟨gb319, 0, none⟩ (.string t314)).setCell ⟨gb319, 1, none⟩ (.string t315)).setCell ⟨gb319, 2, none⟩ (.slice Ao69 t316.length co69)) w.heap.size (fun k_ => some k_ ≠ (.slice Ao41 t278.length co41 : Value).ownBlock ∧ some k_ ≠ (.slice Ao42 t281.length co42 : Value).ownBlock ∧ some k_ ≠ (.slice Ao44 t287.length co44 : Value).ownBlock ∧ some k_ ≠ (.slice Ao45 t292.length co45 : Value).ownBlock ∧ some k_ ≠ (.slice Ao56 t301.length co56 : Value).ownBlock ∧ some k_ ≠ (.slice Ao57 t304.length co57 : Value).ownBlock ∧ some k_ ≠ (.slice Ao58 t307.length co58 : Value).ownBlock ∧ some k_ ≠ (.slice Ao59 t310.length co59 : Value).ownBlock ∧ some k_ ≠ (.slice Ao69 t316.length co69 : Value).ownBlock) (.slice Ao43 t284.length co43) t284) := ⟨by (with_reducible repeat (first | apply Kd.S_alloc | apply Kd.S_drewN | apply Kd.S_drew)); exact Kd.S_mono (Kd.S_far (p := ⟨gb319, 2, none⟩) (Kd.S_far (p := ⟨gb319, 1, none⟩) (Kd.S_far (p := ⟨gb319, 0, none⟩) (Kd.S_types HO286.out BK319.out (by decide)) (fun _ hk => hk.2) (.string t314)) (fun _ hk => hk.2) (.string t315)) (fun _ hk => hk.2) (.slice Ao69 t316.length co69)) (fun _ hk => ⟨hk.1.1.1.1.1.1.1.1, ⟨hk.1.1.1.1.1.1.1.2.1, ⟨hk.1.1.1.1.1.1.1.2.2, ⟨hk.1.1.1.1.1.1.2, ⟨hk.1.1.1.1.1.2, ⟨hk.1.1.1.1.2, ⟨hk.1.1.1.2, ⟨hk.1.1.2, hk.1.2⟩⟩⟩⟩⟩⟩⟩⟩)⟩
        have n3_ : Aside0 (Kd.S (Kd.slice 3 (Kd.int .i64)) 38 (((w63.setCell ⟨gb319, 0, none⟩ (.string t314)).setCell ⟨gb319, 1, none⟩ (.string t315)).setCell ⟨gb319, 2, none⟩ (.slice Ao69 t316.length co69)) w.heap.size (fun k_ => some k_ ≠ (.slice Ao41 t278.length co41 : Value).ownBlock ∧ some k_ ≠ (.slice Ao42 t281.length co42 : Value).ownBlock ∧ some k_ ≠ (.slice Ao43 t284.length co43 : Value).ownBlock ∧ some k_ ≠ (.slice Ao45 t292.length co45 : Value).ownBlock ∧ some k_ ≠ (.slice Ao56 t301.length co56 : Value).ownBlock ∧ some k_ ≠ (.slice Ao57 t304.length co57 : Value).ownBlock ∧ some k_ ≠ (.slice Ao58 t307.length co58 : Value).ownBlock ∧ some k_ ≠ (.slice Ao59 t310.length co59 : Value).ownBlock ∧ some k_ ≠ (.slice Ao69 t316.length co69 : Value).ownBlock) (.slice Ao44 t287.length co44) t287) := ⟨by (with_reducible repeat (first | apply Kd.S_alloc | apply Kd.S_drewN | apply Kd.S_drew)); exact Kd.S_mono (Kd.S_far (p := ⟨gb319, 2, none⟩) (Kd.S_far (p := ⟨gb319, 1, none⟩) (Kd.S_far (p := ⟨gb319, 0, none⟩) (Kd.S_types HO289.out BK319.out (by decide)) (fun _ hk => hk.2) (.string t314)) (fun _ hk => hk.2) (.string t315)) (fun _ hk => hk.2) (.slice Ao69 t316.length co69)) (fun _ hk => ⟨hk.1.1.1.1.1.1.1.1, ⟨hk.1.1.1.1.1.1.1.2.1, ⟨hk.1.1.1.1.1.1.1.2.2, ⟨hk.1.1.1.1.1.1.2, ⟨hk.1.1.1.1.1.2, ⟨hk.1.1.1.1.2, ⟨hk.1.1.1.2, ⟨hk.1.1.2, hk.1.2⟩⟩⟩⟩⟩⟩⟩⟩)⟩
        have n4_ : Aside0 (Kd.R (Kd.int .i64) 3 (((w63.setCell ⟨gb319, 0, none⟩ (.string t314)).setCell ⟨gb319, 1, none⟩ (.string t315)).setCell ⟨gb319, 2, none⟩ (.slice Ao69 t316.length co69)) w.heap.size (fun k_ => some k_ ≠ (.slice Ao42 t281.length co42 : Value).ownBlock ∧ some k_ ≠ (.slice Ao57 t304.length co57 : Value).ownBlock ∧ some k_ ≠ (.slice Ao69 t316.length co69 : Value).ownBlock) (.slice Ao45 t292.length co45) t292) := ⟨by (with_reducible repeat (first | apply Kd.R_alloc | apply Kd.R_drewN | apply Kd.R_drew)); exact Kd.R_mono (Kd.R_far (p := ⟨gb319, 2, none⟩) (Kd.R_far (p := ⟨gb319, 1, none⟩) (Kd.R_far (p := ⟨gb319, 0, none⟩) (Kd.R_types HO294.out BK319.out (by decide)) (fun _ hk => hk.2) (.string t314)) (fun _ hk => hk.2) (.string t315)) (fun _ hk => hk.2) (.slice Ao69 t316.length co69)) (fun _ hk => ⟨hk.1.1.1.2, ⟨hk.1.1.2, hk.1.2⟩⟩)⟩
        have n5_ : Aside0 (Kd.S (Kd.slice 3 (Kd.int .i64)) 38 (((w63.setCell ⟨gb319, 0, none⟩ (.string t314)).setCell ⟨gb319, 1, none⟩ (.string t315)).setCell ⟨gb319, 2, none⟩ (.slice Ao69 t316.length co69)) w.heap.size (fun k_ => some k_ ≠ (.slice Ao41 t278.length co41 : Value).ownBlock ∧ some k_ ≠ (.slice Ao42 t281.length co42 : Value).ownBlock ∧ some k_ ≠ (.slice Ao43 t284.length co43 : Value).ownBlock ∧ some k_ ≠ (.slice Ao44 t287.length co44 : Value).ownBlock ∧ some k_ ≠ (.slice Ao45 t292.length co45 : Value).ownBlock ∧ some k_ ≠ (.slice Ao57 t304.length co57 : Value).ownBlock ∧ some k_ ≠ (.slice Ao58 t307.length co58 : Value).ownBlock ∧ some k_ ≠ (.slice Ao59 t310.length co59 : Value).ownBlock ∧ some k_ ≠ (.slice Ao69 t316.length co69 : Value).ownBlock) (.slice Ao56 t301.length co56) t301) := ⟨by (with_reducible repeat (first | apply Kd.S_alloc | apply Kd.S_drewN | apply Kd.S_drew)); exact Kd.S_mono (Kd.S_far (p := ⟨gb319, 2, none⟩) (Kd.S_far (p := ⟨gb319, 1, none⟩) (Kd.S_far (p := ⟨gb319, 0, none⟩) (Kd.S_types HO303.out BK319.out (by decide)) (fun _ hk => hk.2) (.string t314)) (fun _ hk => hk.2) (.string t315)) (fun _ hk => hk.2) (.slice Ao69 t316.length co69)) (fun _ hk => ⟨hk.1.1.1.1.1.1.2, ⟨hk.1.1.1.1.1.2, ⟨hk.1.1.1.1.2, ⟨hk.1.1.1.2, ⟨hk.1.1.2, ⟨hk.1.1.1.1.1.1.1.1, ⟨hk.1.1.1.1.1.1.1.2.1, ⟨hk.1.1.1.1.1.1.1.2.2, hk.1.2⟩⟩⟩⟩⟩⟩⟩⟩)⟩
        have n6_ : Aside0 (Kd.R (Kd.int .i64) 3 (((w63.setCell ⟨gb319, 0, none⟩ (.string t314)).setCell ⟨gb319, 1, none⟩ (.string t315)).setCell ⟨gb319, 2, none⟩ (.slice Ao69 t316.length co69)) w.heap.size (fun k_ => some k_ ≠ (.slice Ao42 t281.length co42 : Value).ownBlock ∧ some k_ ≠ (.slice Ao45 t292.length co45 : Value).ownBlock ∧ some k_ ≠ (.slice Ao69 t316.length co69 : Value).ownBlock) (.slice Ao57 t304.length co57) t304) := ⟨by (with_reducible repeat (first | apply Kd.R_alloc | apply Kd.R_drewN | apply Kd.R_drew)); exact Kd.R_mono (Kd.R_far (p := ⟨gb319, 2, none⟩) (Kd.R_far (p := ⟨gb319, 1, none⟩) (Kd.R_far (p := ⟨gb319, 0, none⟩) (Kd.R_types HO306.out BK319.out (by decide)) (fun _ hk => hk.2) (.string t314)) (fun _ hk => hk.2) (.string t315)) (fun _ hk => hk.2) (.slice Ao69 t316.length co69)) (fun _ hk => ⟨hk.1.1.1.2, ⟨hk.1.1.2, hk.1.2⟩⟩)⟩
        have n7_ : Aside0 (Kd.S (Kd.slice 3 (Kd.int .i64)) 38 (((w63.setCell ⟨gb319, 0, none⟩ (.string t314)).setCell ⟨gb319, 1, none⟩ (.string t315)).setCell ⟨gb319, 2, none⟩ (.slice Ao69 t316.length co69)) w.heap.size (fun k_ => some k_ ≠ (.slice Ao41 t278.length co41 : Value).ownBlock ∧ some k_ ≠ (.slice Ao42 t281.length co42 : Value).ownBlock ∧ some k_ ≠ (.slice Ao43 t284.length co43 : Value).ownBlock ∧ some k_ ≠ (.slice Ao44 t287.length co44 : Value).ownBlock ∧ some k_ ≠ (.slice Ao45 t292.length co45 : Value).ownBlock ∧ some k_ ≠ (.slice Ao56 t301.length co56 : Value).ownBlock ∧ some k_ ≠ (.slice Ao57 t304.length co57 : Value).ownBlock ∧ some k_ ≠ (.slice Ao59 t310.length co59 : Value).ownBlock ∧ some k_ ≠ (.slice Ao69 t316.length co69 : Value).ownBlock) (.slice Ao58 t307.length co58) t307) := ⟨by (with_reducible repeat (first | apply Kd.S_alloc | apply Kd.S_drewN | apply Kd.S_drew)); exact Kd.S_mono (Kd.S_far (p := ⟨gb319, 2, none⟩) (Kd.S_far (p := ⟨gb319, 1, none⟩) (Kd.S_far (p := ⟨gb319, 0, none⟩) (Kd.S_types HO309.out BK319.out (by decide)) (fun _ hk => hk.2) (.string t314)) (fun _ hk => hk.2) (.string t315)) (fun _ hk => hk.2) (.slice Ao69 t316.length co69)) (fun _ hk => ⟨hk.1.1.1.1.1.1.2, ⟨hk.1.1.1.1.1.2, ⟨hk.1.1.1.1.2, ⟨hk.1.1.1.2, ⟨hk.1.1.2, ⟨hk.1.1.1.1.1.1.1.1, ⟨hk.1.1.1.1.1.1.1.2.1, ⟨hk.1.1.1.1.1.1.1.2.2, hk.1.2⟩⟩⟩⟩⟩⟩⟩⟩)⟩
        have n8_ : Aside0 (Kd.S (Kd.slice 3 (Kd.int .i64)) 38 (((w63.setCell ⟨gb319, 0, none⟩ (.string t314)).setCell ⟨gb319, 1, none⟩ (.string t315)).setCell ⟨gb319, 2, none⟩ (.slice Ao69 t316.length co69)) w.heap.size (fun k_ => some k_ ≠ (.slice Ao41 t278.length co41 : Value).ownBlock ∧ some k_ ≠ (.slice Ao42 t281.length co42 : Value).ownBlock ∧ some k_ ≠ (.slice Ao43 t284.length co43 : Value).ownBlock ∧ some k_ ≠ (.slice Ao44 t287.length co44 : Value).ownBlock ∧ some k_ ≠ (.slice Ao45 t292.length co45 : Value).ownBlock ∧ some k_ ≠ (.slice Ao56 t301.length co56 : Value).ownBlock ∧ some k_ ≠ (.slice Ao57 t304.length co57 : Value).ownBlock ∧ some k_ ≠ (.slice Ao58 t307.length co58 : Value).ownBlock ∧ some k_ ≠ (.slice Ao69 t316.length co69 : Value).ownBlock) (.slice Ao59 t310.length co59) t310) := ⟨by (with_reducible repeat (first | apply Kd.S_alloc | apply Kd.S_drewN | apply Kd.S_drew)); exact Kd.S_mono (Kd.S_far (p := ⟨gb319, 2, none⟩) (Kd.S_far (p := ⟨gb319, 1, none⟩) (Kd.S_far (p := ⟨gb319, 0, none⟩) (Kd.S_types HO312.out BK319.out (by decide)) (fun _ hk => hk.2) (.string t314)) (fun _ hk => hk.2) (.string t315)) (fun _ hk => hk.2) (.slice Ao69 t316.length co69)) (fun _ hk => ⟨hk.1.1.1.1.1.1.2, ⟨hk.1.1.1.1.1.2, ⟨hk.1.1.1.1.2, ⟨hk.1.1.1.2, ⟨hk.1.1.2, ⟨hk.1.1.1.1.1.1.1.1, ⟨hk.1.1.1.1.1.1.1.2.1, ⟨hk.1.1.1.1.1.1.1.2.2, hk.1.2⟩⟩⟩⟩⟩⟩⟩⟩)⟩
        have n9_ : Aside0 (Kd.R (Kd.int .i64) 3 (((w63.setCell ⟨gb319, 0, none⟩ (.string t314)).setCell ⟨gb319, 1, none⟩ (.string t315)).setCell ⟨gb319, 2, none⟩ (.slice Ao69 t316.length co69)) w.heap.size (fun k_ => some k_ ≠ (.slice Ao42 t281.length co42 : Value).ownBlock ∧ some k_ ≠ (.slice Ao45 t292.length co45 : Value).ownBlock ∧ some k_ ≠ (.slice Ao57 t304.length co57 : Value).ownBlock) (.slice Ao69 t316.length co69) t316) := ⟨by (with_reducible repeat (first | apply Kd.R_alloc | apply Kd.R_drewN | apply Kd.R_drew)); exact Kd.R_mono (Kd.R_far (p := ⟨gb319, 2, none⟩) (Kd.R_far (p := ⟨gb319, 1, none⟩) (Kd.R_far (p := ⟨gb319, 0, none⟩) (Kd.R_types HO318.out BK319.out (by decide)) (fun _ hk => hk.2) (.string t314)) (fun _ hk => hk.2) (.string t315)) (fun _ hk => hk.2) (.slice Ao69 t316.length co69)) (fun _ hk => ⟨hk.1.1.1.2, ⟨hk.1.1.2, hk.1.2⟩⟩)⟩
        have n10_ : Aside0 ((((w63.setCell ⟨gb319, 0, none⟩ (.string t314)).setCell ⟨gb319, 1, none⟩ (.string t315)).setCell ⟨gb319, 2, none⟩ (.slice Ao69 t316.length co69)).heap[gb270]? = some (.cells #[.string a0_0, .string a0_1, .slice A0_2 l0_2.length c0_2, .slice A0_3 l0_3.length c0_3, .slice A0_4 l0_4.length c0_4, .slice A0_5 l0_5.length c0_5] 68 (0, 0))) := ⟨by (with_reducible repeat (first | refine blk_drewN ?_ _ | refine blk_drew ?_ | refine blk_alloc ?_ _)); refine blk_far ?_ NB270_319.out _; (with_reducible repeat (first | refine blk_drewN ?_ _ | refine blk_drew ?_ | refine blk_alloc ?_ _)); refine blk_far ?_ NB270_319.out _; (with_reducible repeat (first | refine blk_drewN ?_ _ | refine blk_drew ?_ | refine blk_alloc ?_ _)); refine blk_far ?_ NB270_319.out _; (with_reducible repeat (first | refine blk_drewN ?_ _ | refine blk_drew ?_ | refine blk_alloc ?_ _)); exact BK270.out⟩
        have n11_ : Aside0 ((((w63.setCell ⟨gb319, 0, none⟩ (.string t314)).setCell ⟨gb319, 1, none⟩ (.string t315)).setCell ⟨gb319, 2, none⟩ (.slice Ao69 t316.length co69)).heap[gb271]? = some (.cells #[.string a1_0, .string a1_1, .slice A1_2 l1_2.length c1_2] 40 (0, 0))) := ⟨by (with_reducible repeat (first | refine blk_drewN ?_ _ | refine blk_drew ?_ | refine blk_alloc ?_ _)); refine blk_far ?_ NB271_319.out _; (with_reducible repeat (first | refine blk_drewN ?_ _ | refine blk_drew ?_ | refine blk_alloc ?_ _)); refine blk_far ?_ NB271_319.out _; (with_reducible repeat (first | refine blk_drewN ?_ _ | refine blk_drew ?_ | refine blk_alloc ?_ _)); refine blk_far ?_ NB271_319.out _; (with_reducible repeat (first | refine blk_drewN ?_ _ | refine blk_drew ?_ | refine blk_alloc ?_ _)); exact BK271.out⟩
        have n12_ : Aside0 ((((w63.setCell ⟨gb319, 0, none⟩ (.string t314)).setCell ⟨gb319, 1, none⟩ (.string t315)).setCell ⟨gb319, 2, none⟩ (.slice Ao69 t316.length co69)).heap[gb272]? = some (.cells #[.string a2_0, .string a2_1, .string a2_2] 52 (0, 0))) := ⟨by (with_reducible repeat (first | refine blk_drewN ?_ _ | refine blk_drew ?_ | refine blk_alloc ?_ _)); refine blk_far ?_ NB272_319.out _; (with_reducible repeat (first | refine blk_drewN ?_ _ | refine blk_drew ?_ | refine blk_alloc ?_ _)); refine blk_far ?_ NB272_319.out _; (with_reducible repeat (first | refine blk_drewN ?_ _ | refine blk_drew ?_ | refine blk_alloc ?_ _)); refine blk_far ?_ NB272_319.out _; (with_reducible repeat (first | refine blk_drewN ?_ _ | refine blk_drew ?_ | refine blk_alloc ?_ _)); exact BK272.out⟩
        have n13_ : Aside0 ((((w63.setCell ⟨gb319, 0, none⟩ (.string t314)).setCell ⟨gb319, 1, none⟩ (.string t315)).setCell ⟨gb319, 2, none⟩ (.slice Ao69 t316.length co69)).heap[gb313]? = some (.cells #[.string t299, .string t300, .slice Ao56 t301.length co56, .slice Ao57 t304.length co57, .slice Ao58 t307.length co58, .slice Ao59 t310.length co59] 75 (0, 0))) := ⟨by (with_reducible repeat (first | refine blk_drewN ?_ _ | refine blk_drew ?_ | refine blk_alloc ?_ _)); refine blk_far ?_ NB313_319.out _; (with_reducible repeat (first | refine blk_drewN ?_ _ | refine blk_drew ?_ | refine blk_alloc ?_ _)); refine blk_far ?_ NB313_319.out _; (with_reducible repeat (first | refine blk_drewN ?_ _ | refine blk_drew ?_ | refine blk_alloc ?_ _)); refine blk_far ?_ NB313_319.out _; (with_reducible repeat (first | refine blk_drewN ?_ _ | refine blk_drew ?_ | refine blk_alloc ?_ _)); exact BK313.out⟩
        have n14_ : Aside0 ((((w63.setCell ⟨gb319, 0, none⟩ (.string t314)).setCell ⟨gb319, 1, none⟩ (.string t315)).setCell ⟨gb319, 2, none⟩ (.slice Ao69 t316.length co69)).heap[gb319]? = some (.cells #[.string t314, .string t315, .slice Ao69 t316.length co69] 46 (0, 0))) := ⟨by (with_reducible repeat (first | refine blk_drewN ?_ _ | refine blk_drew ?_ | refine blk_alloc ?_ _)); refine blk_put (cs := #[.string t314, .string t315, .slice none 0 0]) ?_ 2 _ rfl; (with_reducible repeat (first | refine blk_drewN ?_ _ | refine blk_drew ?_ | refine blk_alloc ?_ _)); refine blk_put (cs := #[.string t314, .string (⟨#[]⟩ : ByteArray), .slice none 0 0]) ?_ 1 _ rfl; (with_reducible repeat (first | refine blk_drewN ?_ _ | refine blk_drew ?_ | refine blk_alloc ?_ _)); refine blk_put (cs := #[.string (⟨#[]⟩ : ByteArray), .string (⟨#[]⟩ : ByteArray), .slice none 0 0]) ?_ 0 _ rfl; (with_reducible repeat (first | refine blk_drewN ?_ _ | refine blk_drew ?_ | refine blk_alloc ?_ _)); exact BK319.out⟩
        have n15_ : Aside0 (Below w.heap.size w (((w63.setCell ⟨gb319, 0, none⟩ (.string t314)).setCell ⟨gb319, 1, none⟩ (.string t315)).setCell ⟨gb319, 2, none⟩ (.slice Ao69 t316.length co69))) := ⟨by repeat (first | (with_reducible first | exact HB.out | apply below_alloc | apply pw_below_drewN | apply below_drew1 | refine below_set ?_ GE270.out | refine below_set ?_ GE271.out | refine below_set ?_ GE272.out | refine below_set ?_ GE313.out | refine below_set ?_ GE319.out) | exact HB.out)⟩
        (try clear HO280)
        (try clear HO283)
        (try clear HO286)
        (try clear HO289)
        (try clear HO294)
        (try clear HO303)
        (try clear HO306)
        (try clear HO309)
        (try clear HO312)
        (try clear HO318)
        (try clear BK270)
        (try clear BK271)
        (try clear BK272)
        (try clear BK313)
        (try clear BK319)
        (try clear HB)
        generalize (((w63.setCell ⟨gb319, 0, none⟩ (.string t314)).setCell ⟨gb319, 1, none⟩ (.string t315)).setCell ⟨gb319, 2, none⟩ (.slice Ao69 t316.length co69)) = w70 at n0_ n1_ n2_ n3_ n4_ n5_ n6_ n7_ n8_ n9_ n10_ n11_ n12_ n13_ n14_ n15_ ⊢
        have HO280 := n0_
        have HO283 := n1_
        have HO286 := n2_
        have HO289 := n3_
        have HO294 := n4_
        have HO303 := n5_
        have HO306 := n6_
        have HO309 := n7_
        have HO312 := n8_
        have HO318 := n9_
        have BK270 := n10_
        have BK271 := n11_
        have BK272 := n12_
        have BK313 := n13_
        have BK319 := n14_
        have HB := n15_
        clear n0_ n1_ n2_ n3_ n4_ n5_ n6_ n7_ n8_ n9_ n10_ n11_ n12_ n13_ n14_ n15_
        have n0_ := Aside0.mk (Kd.S_drew HO280.out)
        have n1_ := Aside0.mk (Kd.R_drew HO283.out)
        have n2_ := Aside0.mk (Kd.S_drew HO286.out)
        have n3_ := Aside0.mk (Kd.S_drew HO289.out)
        have n4_ := Aside0.mk (Kd.R_drew HO294.out)
        have n5_ := Aside0.mk (Kd.S_drew HO303.out)
        have n6_ := Aside0.mk (Kd.R_drew HO306.out)
        have n7_ := Aside0.mk (Kd.S_drew HO309.out)
        have n8_ := Aside0.mk (Kd.S_drew HO312.out)
        have n9_ := Aside0.mk (Kd.R_drew HO318.out)
        have n10_ := Aside0.mk (blk_drew BK270.out)
        have n11_ := Aside0.mk (blk_drew BK271.out)
        have n12_ := Aside0.mk (blk_drew BK272.out)
        have n13_ := Aside0.mk (blk_drew BK313.out)
        have n14_ := Aside0.mk (blk_drew BK319.out)
        have n15_ := Aside0.mk (below_drew1 HB.out)
        clear HO280
        clear HO283
        clear HO286
        clear HO289
        clear HO294
        clear HO303
        clear HO306
        clear HO309
        clear HO312
        clear HO318
        clear BK270
        clear BK271
        clear BK272
        clear BK313
        clear BK319
        clear HB
        have HO280 := n0_
        have HO283 := n1_
        have HO286 := n2_
        have HO289 := n3_
        have HO294 := n4_
        have HO303 := n5_
        have HO306 := n6_
        have HO309 := n7_
        have HO312 := n8_
        have HO318 := n9_
        have BK270 := n10_
        have BK271 := n11_
        have BK272 := n12_
        have BK313 := n13_
        have BK319 := n14_
        have HB := n15_
        clear n0_ n1_ n2_ n3_ n4_ n5_ n6_ n7_ n8_ n9_ n10_ n11_ n12_ n13_ n14_ n15_
        refine start_ (n := 6) (S := fun w' => w'.cell? ⟨gb313, 0, none⟩ = some (.string t299) ∧ w'.cell? ⟨gb313, 1, none⟩ = some (.string t300) ∧ w'.cell? ⟨gb313, 2, none⟩ = some (.slice Ao56 t301.length co56) ∧ w'.cell? ⟨gb313, 3, none⟩ = some (.slice Ao57 t304.length co57) ∧ w'.cell? ⟨gb313, 4, none⟩ = some (.slice Ao58 t307.length co58) ∧ w'.cell? ⟨gb313, 5, none⟩ = some (.slice Ao59 t310.length co59) ∧ w'.cell? ⟨gb319, 0, none⟩ = some (.string t314) ∧ w'.cell? ⟨gb319, 1, none⟩ = some (.string t315) ∧ w'.cell? ⟨gb319, 2, none⟩ = some (.slice Ao69 t316.length co69) ∧ w'.cell? ⟨gb272, 0, none⟩ = some (.string a2_0) ∧ w'.cell? ⟨gb272, 1, none⟩ = some (.string a2_1) ∧ w'.cell? ⟨gb272, 2, none⟩ = some (.string a2_2)) (ds := []) #[false, false, false, false, false, false] (by kernel_rfl) rfl rfl ⟨(blk_cell BK313.out 0).trans rfl, (blk_cell BK313.out 1).trans rfl, (blk_cell BK313.out 2).trans rfl, (blk_cell BK313.out 3).trans rfl, (blk_cell BK313.out 4).trans rfl, (blk_cell BK313.out 5).trans rfl, (blk_cell BK319.out 0).trans rfl, (blk_cell BK319.out 1).trans rfl, (blk_cell BK319.out 2).trans rfl, (blk_cell BK272.out 0).trans rfl, (blk_cell BK272.out 1).trans rfl, (blk_cell BK272.out 2).trans rfl⟩ (fun hHeld => ?_)
        generalize w70.drew = w71 at HO280 HO283 HO286 HO289 HO294 HO303 HO306 HO309 HO312 HO318 BK270 BK271 BK272 BK313 BK319 HB hHeld ⊢
        refine take_ (i := 0) (N := some 38) (v := ?_) (a' := ?_) #[true, false, false, false, false, false] rfl rfl (by kernel_rfl) (fun _ _ _ h => h) (Or.inl ⟨by rfl, ?_⟩) hHeld ?_ ?_
        rotate_left
        · rintro w' ⟨s0, s1, s2, s3, s4, s5, s6, s7, s8, s9, s10, s11⟩
          go_simp
          with_reducible rfl
        rotate_left
        · simp only [Act.put, List.setIfInBounds_toArray, List.set_cons_zero, List.set_cons_succ, i64_w, i32_w]
          rfl
        refine take_ (i := 1) (N := some 39) (v := ?_) (a' := ?_) #[true, true, false, false, false, false] rfl rfl (by kernel_rfl) (fun _ _ _ h => h) (Or.inl ⟨by rfl, ?_⟩) hHeld ?_ ?_
        rotate_left
        · rintro w' ⟨s0, s1, s2, s3, s4, s5, s6, s7, s8, s9, s10, s11⟩
          go_simp
          with_reducible rfl
        rotate_left
        · simp only [Act.put, List.setIfInBounds_toArray, List.set_cons_zero, List.set_cons_succ, i64_w, i32_w]
          rfl
        refine take_ (i := 2) (N := some 40) (v := ?_) (a' := ?_) #[true, true, true, false, false, false] rfl rfl (by kernel_rfl) (fun _ _ _ h => h) (Or.inl ⟨by rfl, ?_⟩) hHeld ?_ ?_
        rotate_left
        · rintro w' ⟨s0, s1, s2, s3, s4, s5, s6, s7, s8, s9, s10, s11⟩
          go_simp
          with_reducible rfl
        rotate_left
        · simp only [Act.put, List.setIfInBounds_toArray, List.set_cons_zero, List.set_cons_succ, i64_w, i32_w]
          rfl
        refine one_ (i := 3) (N := some 41) #[true, true, true, true, false, false] rfl rfl (by kernel_rfl) (by decide) (fun K hK => ?_)
        refine goes_ Try.func39 (by kernel_rfl) rfl #[.agg #[.string a2_0, .string a2_1, .string a2_2]] (by rfl) rfl rfl (by (try simp only [List.map_toArray, List.map_cons, List.map_nil]); first | done | rfl | (simp only [List.length_drop, List.length_take]; rfl)) ?_
        with_reducible refine (laws_toValues.calls a2_0 a2_1 a2_2 t320 t321 t322 _ A34.out).mono ?_
        rintro e w72 ⟨rfl, hb⟩
        refine ⟨_, rfl, ?_⟩
        have n0_ := Aside0.mk (Kd.S_below (by (with_reducible repeat (first | apply Kd.S_alloc | apply Kd.S_drewN | apply Kd.S_drew)); exact HO280.out) hb)
        have n1_ := Aside0.mk (Kd.R_below (by (with_reducible repeat (first | apply Kd.R_alloc | apply Kd.R_drewN | apply Kd.R_drew)); exact HO283.out) hb)
        have n2_ := Aside0.mk (Kd.S_below (by (with_reducible repeat (first | apply Kd.S_alloc | apply Kd.S_drewN | apply Kd.S_drew)); exact HO286.out) hb)
        have n3_ := Aside0.mk (Kd.S_below (by (with_reducible repeat (first | apply Kd.S_alloc | apply Kd.S_drewN | apply Kd.S_drew)); exact HO289.out) hb)
        have n4_ := Aside0.mk (Kd.R_below (by (with_reducible repeat (first | apply Kd.R_alloc | apply Kd.R_drewN | apply Kd.R_drew)); exact HO294.out) hb)
        have n5_ := Aside0.mk (Kd.S_below (by (with_reducible repeat (first | apply Kd.S_alloc | apply Kd.S_drewN | apply Kd.S_drew)); exact HO303.out) hb)
        have n6_ := Aside0.mk (Kd.R_below (by (with_reducible repeat (first | apply Kd.R_alloc | apply Kd.R_drewN | apply Kd.R_drew)); exact HO306.out) hb)
        have n7_ := Aside0.mk (Kd.S_below (by (with_reducible repeat (first | apply Kd.S_alloc | apply Kd.S_drewN | apply Kd.S_drew)); exact HO309.out) hb)
        have n8_ := Aside0.mk (Kd.S_below (by (with_reducible repeat (first | apply Kd.S_alloc | apply Kd.S_drewN | apply Kd.S_drew)); exact HO312.out) hb)
        have n9_ := Aside0.mk (Kd.R_below (by (with_reducible repeat (first | apply Kd.R_alloc | apply Kd.R_drewN | apply Kd.R_drew)); exact HO318.out) hb)
        have n10_ := Aside0.mk (blk_below (g := gb270) (o := .cells #[.string a0_0, .string a0_1, .slice A0_2 l0_2.length c0_2, .slice A0_3 l0_3.length c0_3, .slice A0_4 l0_4.length c0_4, .slice A0_5 l0_5.length c0_5] 68 (0, 0)) (by (with_reducible repeat (first | refine blk_drewN ?_ _ | refine blk_drew ?_ | refine blk_alloc ?_ _)); exact BK270.out) hb)
        have n11_ := Aside0.mk (blk_below (g := gb271) (o := .cells #[.string a1_0, .string a1_1, .slice A1_2 l1_2.length c1_2] 40 (0, 0)) (by (with_reducible repeat (first | refine blk_drewN ?_ _ | refine blk_drew ?_ | refine blk_alloc ?_ _)); exact BK271.out) hb)
        have n12_ := Aside0.mk (blk_below (g := gb272) (o := .cells #[.string a2_0, .string a2_1, .string a2_2] 52 (0, 0)) (by (with_reducible repeat (first | refine blk_drewN ?_ _ | refine blk_drew ?_ | refine blk_alloc ?_ _)); exact BK272.out) hb)
        have n13_ := Aside0.mk (blk_below (g := gb313) (o := .cells #[.string t299, .string t300, .slice Ao56 t301.length co56, .slice Ao57 t304.length co57, .slice Ao58 t307.length co58, .slice Ao59 t310.length co59] 75 (0, 0)) (by (with_reducible repeat (first | refine blk_drewN ?_ _ | refine blk_drew ?_ | refine blk_alloc ?_ _)); exact BK313.out) hb)
        have n14_ := Aside0.mk (blk_below (g := gb319) (o := .cells #[.string t314, .string t315, .slice Ao69 t316.length co69] 46 (0, 0)) (by (with_reducible repeat (first | refine blk_drewN ?_ _ | refine blk_drew ?_ | refine blk_alloc ?_ _)); exact BK319.out) hb)
        have n15_ := Aside0.mk (below_step (by repeat (first | (with_reducible first | exact HB.out | apply below_alloc | apply pw_below_drewN | apply below_drew1 | refine below_set ?_ GE270.out | refine below_set ?_ GE271.out | refine below_set ?_ GE272.out | refine below_set ?_ GE313.out | refine below_set ?_ GE319.out) | exact HB.out)) hb)
        clear HO280
        clear HO283
        clear HO286
        clear HO289
        clear HO294
        clear HO303
        clear HO306
        clear HO309
        clear HO312
        clear HO318
        clear BK270
        clear BK271
        clear BK272
        clear BK313
        clear BK319
        clear HB
        have HO280 := n0_
        have HO283 := n1_
        have HO286 := n2_
        have HO289 := n3_
        have HO294 := n4_
        have HO303 := n5_
        have HO306 := n6_
        have HO309 := n7_
        have HO312 := n8_
        have HO318 := n9_
        have BK270 := n10_
        have BK271 := n11_
        have BK272 := n12_
        have BK313 := n13_
        have BK319 := n14_
        have HB := n15_
        clear n0_ n1_ n2_ n3_ n4_ n5_ n6_ n7_ n8_ n9_ n10_ n11_ n12_ n13_ n14_ n15_
        (try clear hb)
        (try clear hb2)
        (try clear hk)
        (try clear hi)
        refine hK.out _ _ ⟨(blk_cell BK313.out 0).trans rfl, (blk_cell BK313.out 1).trans rfl, (blk_cell BK313.out 2).trans rfl, (blk_cell BK313.out 3).trans rfl, (blk_cell BK313.out 4).trans rfl, (blk_cell BK313.out 5).trans rfl, (blk_cell BK319.out 0).trans rfl, (blk_cell BK319.out 1).trans rfl, (blk_cell BK319.out 2).trans rfl, (blk_cell BK272.out 0).trans rfl, (blk_cell BK272.out 1).trans rfl, (blk_cell BK272.out 2).trans rfl⟩ (fun hHeld => ?_)
        clear hK K
        refine norm_ (a' := ?_) ?_ ?_
        rotate_left
        · show Act.put _ (some 41) _ = _
          simp only [Act.put, List.setIfInBounds_toArray, List.set_cons_zero, List.set_cons_succ, i64_w, i32_w]
          rfl
        refine one_ (i := 4) (N := some 42) #[true, true, true, true, true, false] rfl rfl (by kernel_rfl) (by decide) (fun K hK => ?_)
        refine goes_ Try.func40 (by kernel_rfl) rfl #[.agg #[.string t299, .string t300, .slice Ao56 t301.length co56, .slice Ao57 t304.length co57, .slice Ao58 t307.length co58, .slice Ao59 t310.length co59], .agg #[.string t314, .string t315, .slice Ao69 t316.length co69], .agg #[.string t320, .string t321, .string t322]] (by rfl) rfl rfl (by (try simp only [List.map_toArray, List.map_cons, List.map_nil]); first | done | rfl | (simp only [List.length_drop, List.length_take]; rfl)) ?_
        with_reducible refine (impl_FitsState.calls k t299 t300 _ _ t301 _ _ t304 _ _ t307 _ _ t310 t314 t315 _ _ t316 t320 t321 t322 t323 _ ?side1 ?side2 ?side3 ?side4 ?side5 ?side6 ?side7 ?side8 ?side9 ?side10 A35.out).mono ?_
        (case side1 => repeat (first | exact (Kd.S_reads' HO303.out).2.2 | (with_reducible refine Kd.C_alloc ?_ _) | (with_reducible refine Kd.C_drewN ?_ _) | (with_reducible refine Kd.C_drew ?_)))
        (case side2 => exact (Kd.S_reads' HO303.out).2.1)
        (case side3 => repeat (first | exact (Kd.R_reads' HO306.out).2.2 | (with_reducible refine Kd.C_alloc ?_ _) | (with_reducible refine Kd.C_drewN ?_ _) | (with_reducible refine Kd.C_drew ?_)))
        (case side4 => exact (Kd.R_reads' HO306.out).2.1)
        (case side5 => repeat (first | exact (Kd.S_reads' HO309.out).2.2 | (with_reducible refine Kd.C_alloc ?_ _) | (with_reducible refine Kd.C_drewN ?_ _) | (with_reducible refine Kd.C_drew ?_)))
        (case side6 => exact (Kd.S_reads' HO309.out).2.1)
        (case side7 => repeat (first | exact (Kd.S_reads' HO312.out).2.2 | (with_reducible refine Kd.C_alloc ?_ _) | (with_reducible refine Kd.C_drewN ?_ _) | (with_reducible refine Kd.C_drew ?_)))
        (case side8 => exact (Kd.S_reads' HO312.out).2.1)
        (case side9 => repeat (first | exact (Kd.R_reads' HO318.out).2.2 | (with_reducible refine Kd.C_alloc ?_ _) | (with_reducible refine Kd.C_drewN ?_ _) | (with_reducible refine Kd.C_drew ?_)))
        (case side10 => exact (Kd.R_reads' HO318.out).2.1)
        rintro e w73 ⟨rfl, hb⟩
        refine ⟨_, rfl, ?_⟩
        have n0_ := Aside0.mk (Kd.S_below (by (with_reducible repeat (first | apply Kd.S_alloc | apply Kd.S_drewN | apply Kd.S_drew)); exact HO280.out) hb)
        have n1_ := Aside0.mk (Kd.R_below (by (with_reducible repeat (first | apply Kd.R_alloc | apply Kd.R_drewN | apply Kd.R_drew)); exact HO283.out) hb)
        have n2_ := Aside0.mk (Kd.S_below (by (with_reducible repeat (first | apply Kd.S_alloc | apply Kd.S_drewN | apply Kd.S_drew)); exact HO286.out) hb)
        have n3_ := Aside0.mk (Kd.S_below (by (with_reducible repeat (first | apply Kd.S_alloc | apply Kd.S_drewN | apply Kd.S_drew)); exact HO289.out) hb)
        have n4_ := Aside0.mk (Kd.R_below (by (with_reducible repeat (first | apply Kd.R_alloc | apply Kd.R_drewN | apply Kd.R_drew)); exact HO294.out) hb)
        have n5_ := Aside0.mk (Kd.S_below (by (with_reducible repeat (first | apply Kd.S_alloc | apply Kd.S_drewN | apply Kd.S_drew)); exact HO303.out) hb)
        have n6_ := Aside0.mk (Kd.R_below (by (with_reducible repeat (first | apply Kd.R_alloc | apply Kd.R_drewN | apply Kd.R_drew)); exact HO306.out) hb)
        have n7_ := Aside0.mk (Kd.S_below (by (with_reducible repeat (first | apply Kd.S_alloc | apply Kd.S_drewN | apply Kd.S_drew)); exact HO309.out) hb)
        have n8_ := Aside0.mk (Kd.S_below (by (with_reducible repeat (first | apply Kd.S_alloc | apply Kd.S_drewN | apply Kd.S_drew)); exact HO312.out) hb)
        have n9_ := Aside0.mk (Kd.R_below (by (with_reducible repeat (first | apply Kd.R_alloc | apply Kd.R_drewN | apply Kd.R_drew)); exact HO318.out) hb)
        have n10_ := Aside0.mk (blk_below (g := gb270) (o := .cells #[.string a0_0, .string a0_1, .slice A0_2 l0_2.length c0_2, .slice A0_3 l0_3.length c0_3, .slice A0_4 l0_4.length c0_4, .slice A0_5 l0_5.length c0_5] 68 (0, 0)) (by (with_reducible repeat (first | refine blk_drewN ?_ _ | refine blk_drew ?_ | refine blk_alloc ?_ _)); exact BK270.out) hb)
        have n11_ := Aside0.mk (blk_below (g := gb271) (o := .cells #[.string a1_0, .string a1_1, .slice A1_2 l1_2.length c1_2] 40 (0, 0)) (by (with_reducible repeat (first | refine blk_drewN ?_ _ | refine blk_drew ?_ | refine blk_alloc ?_ _)); exact BK271.out) hb)
        have n12_ := Aside0.mk (blk_below (g := gb272) (o := .cells #[.string a2_0, .string a2_1, .string a2_2] 52 (0, 0)) (by (with_reducible repeat (first | refine blk_drewN ?_ _ | refine blk_drew ?_ | refine blk_alloc ?_ _)); exact BK272.out) hb)
        have n13_ := Aside0.mk (blk_below (g := gb313) (o := .cells #[.string t299, .string t300, .slice Ao56 t301.length co56, .slice Ao57 t304.length co57, .slice Ao58 t307.length co58, .slice Ao59 t310.length co59] 75 (0, 0)) (by (with_reducible repeat (first | refine blk_drewN ?_ _ | refine blk_drew ?_ | refine blk_alloc ?_ _)); exact BK313.out) hb)
        have n14_ := Aside0.mk (blk_below (g := gb319) (o := .cells #[.string t314, .string t315, .slice Ao69 t316.length co69] 46 (0, 0)) (by (with_reducible repeat (first | refine blk_drewN ?_ _ | refine blk_drew ?_ | refine blk_alloc ?_ _)); exact BK319.out) hb)
        have n15_ := Aside0.mk (below_step (by repeat (first | (with_reducible first | exact HB.out | apply below_alloc | apply pw_below_drewN | apply below_drew1 | refine below_set ?_ GE270.out | refine below_set ?_ GE271.out | refine below_set ?_ GE272.out | refine below_set ?_ GE313.out | refine below_set ?_ GE319.out) | exact HB.out)) hb)
        clear HO280
        clear HO283
        clear HO286
        clear HO289
        clear HO294
        clear HO303
        clear HO306
        clear HO309
        clear HO312
        clear HO318
        clear BK270
        clear BK271
        clear BK272
        clear BK313
        clear BK319
        clear HB
        have HO280 := n0_
        have HO283 := n1_
        have HO286 := n2_
        have HO289 := n3_
        have HO294 := n4_
        have HO303 := n5_
        have HO306 := n6_
        have HO309 := n7_
        have HO312 := n8_
        have HO318 := n9_
        have BK270 := n10_
        have BK271 := n11_
        have BK272 := n12_
        have BK313 := n13_
        have BK319 := n14_
        have HB := n15_
        clear n0_ n1_ n2_ n3_ n4_ n5_ n6_ n7_ n8_ n9_ n10_ n11_ n12_ n13_ n14_ n15_
        (try clear hb)
        (try clear hb2)
        (try clear hk)
        (try clear hi)
        refine hK.out _ _ ⟨(blk_cell BK313.out 0).trans rfl, (blk_cell BK313.out 1).trans rfl, (blk_cell BK313.out 2).trans rfl, (blk_cell BK313.out 3).trans rfl, (blk_cell BK313.out 4).trans rfl, (blk_cell BK313.out 5).trans rfl, (blk_cell BK319.out 0).trans rfl, (blk_cell BK319.out 1).trans rfl, (blk_cell BK319.out 2).trans rfl, (blk_cell BK272.out 0).trans rfl, (blk_cell BK272.out 1).trans rfl, (blk_cell BK272.out 2).trans rfl⟩ (fun hHeld => ?_)
        clear hK K
        refine norm_ (a' := ?_) ?_ ?_
        rotate_left
        · show Act.put _ (some 42) _ = _
          simp only [Act.put, List.setIfInBounds_toArray, List.set_cons_zero, List.set_cons_succ, i64_w, i32_w]
          rfl
        refine pure_ (i := 5) (N := some 11) (v := ?_) (a' := ?_) #[true, true, true, true, true, true] rfl rfl (by kernel_rfl) (fun _ _ _ h => h) (Or.inl ⟨by rfl, ?_⟩) ?_ ?_
        rotate_left
        · intro w'
          go_simp
          with_reducible rfl
        rotate_left
        · simp only [Act.put, List.setIfInBounds_toArray, List.set_cons_zero, List.set_cons_succ, i64_w, i32_w]
          rfl
        refine done_ (by kernel_rfl) ?_
        go_upto_if 45 with (fail)
        (try simp only [Act.put, List.setIfInBounds_toArray, List.set_cons_zero, List.set_cons_succ])
        have H := HC36.out
        clear HC36
        by_cases c74 : (t323 != t298) = true
        · rw [if_pos c74] at H
          have c74b0 : (t323 != t298) = true := c74
          (try (have c74b1 : decide (t323 = t298) = false := by simpa using c74))
          (try (have c74b2 : (t323 == t298) = false := by simpa using c74))
          (try (have c74b3 : ¬ (t323 = t298) := by simpa using c74))
          clear c74
          (first | rw [c74b0] | (simp only [i64_w, i32_w]; rw [c74b0]) | rw [c74b2] | rw [c74b1] | skip)
          (try simp only [Bool.not_true, Bool.not_false])
          obtain rfl := Option.some.inj H
          go_wp2
          go_ret
          exact ⟨by first | rfl | (simp [errW_none, errW_some] <;> rfl) | (simp [*, errW_none, errW_some] <;> rfl), by repeat (first | (with_reducible first | exact HB.out | apply below_alloc | apply pw_below_drewN | apply below_drew1 | refine below_set ?_ GE270.out | refine below_set ?_ GE271.out | refine below_set ?_ GE272.out | refine below_set ?_ GE313.out | refine below_set ?_ GE319.out) | exact HB.out)⟩
        · rw [if_neg c74] at H
          have c74b0 : (t323 != t298) = false := by simpa using c74
          (try (have c74b1 : decide (t323 = t298) = true := by simpa using c74))
          (try (have c74b2 : (t323 == t298) = true := by simpa using c74))
          clear c74
          (first | rw [c74b0] | (simp only [i64_w, i32_w]; rw [c74b0]) | rw [c74b2] | rw [c74b1] | skip)
          (try simp only [Bool.not_true, Bool.not_false])
          replace H := Option.bind_eq_some_iff.mp H
          obtain ⟨⟨t324, t325, t326, t329, t332, t335⟩, A750, H⟩ := H
          replace H : ((laws_eqFrame.f k t299 t300 t301 t304 t307 t310 t324 t325 t326 t329 t332 t335).bind fun t338 => (if t338 = true then ((laws_toState.f k a1_0 a1_1 l1_2).bind fun bt339 => ((laws_eqState.f k t314 t315 t316 bt339.1 bt339.2.1 bt339.2.2).bind fun t344 => (if t344 = true then (some true) else (some false)))) else (some false))) = some r := H
          have A75 := Aside0.mk A750
          clear A750
          replace H := Option.bind_eq_some_iff.mp H
          obtain ⟨t338, A760, H⟩ := H
          replace H : (if t338 = true then ((laws_toState.f k a1_0 a1_1 l1_2).bind fun bt339 => ((laws_eqState.f k t314 t315 t316 bt339.1 bt339.2.1 bt339.2.2).bind fun t344 => (if t344 = true then (some true) else (some false)))) else (some false)) = some r := H
          have A76 := Aside0.mk A760
          clear A760
          have HC77 := Aside0.mk H
          clear H
          try go_wp2
          have n0_ := Aside0.mk (Kd.S_drew HO280.out)
          have n1_ := Aside0.mk (Kd.R_drew HO283.out)
          have n2_ := Aside0.mk (Kd.S_drew HO286.out)
          have n3_ := Aside0.mk (Kd.S_drew HO289.out)
          have n4_ := Aside0.mk (Kd.R_drew HO294.out)
          have n5_ := Aside0.mk (Kd.S_drew HO303.out)
          have n6_ := Aside0.mk (Kd.R_drew HO306.out)
          have n7_ := Aside0.mk (Kd.S_drew HO309.out)
          have n8_ := Aside0.mk (Kd.S_drew HO312.out)
          have n9_ := Aside0.mk (Kd.R_drew HO318.out)
          have n10_ := Aside0.mk (blk_drew BK270.out)
          have n11_ := Aside0.mk (blk_drew BK271.out)
          have n12_ := Aside0.mk (blk_drew BK272.out)
          have n13_ := Aside0.mk (blk_drew BK313.out)
          have n14_ := Aside0.mk (blk_drew BK319.out)
          have n15_ := Aside0.mk (below_drew1 HB.out)
          clear HO280
          clear HO283
          clear HO286
          clear HO289
          clear HO294
          clear HO303
          clear HO306
          clear HO309
          clear HO312
          clear HO318
          clear BK270
          clear BK271
          clear BK272
          clear BK313
          clear BK319
          clear HB
          have HO280 := n0_
          have HO283 := n1_
          have HO286 := n2_
          have HO289 := n3_
          have HO294 := n4_
          have HO303 := n5_
          have HO306 := n6_
          have HO309 := n7_
          have HO312 := n8_
          have HO318 := n9_
          have BK270 := n10_
          have BK271 := n11_
          have BK272 := n12_
          have BK313 := n13_
          have BK319 := n14_
          have HB := n15_
          clear n0_ n1_ n2_ n3_ n4_ n5_ n6_ n7_ n8_ n9_ n10_ n11_ n12_ n13_ n14_ n15_
          refine start_ (n := 5) (S := fun w' => w'.cell? ⟨gb313, 0, none⟩ = some (.string t299) ∧ w'.cell? ⟨gb313, 1, none⟩ = some (.string t300) ∧ w'.cell? ⟨gb313, 2, none⟩ = some (.slice Ao56 t301.length co56) ∧ w'.cell? ⟨gb313, 3, none⟩ = some (.slice Ao57 t304.length co57) ∧ w'.cell? ⟨gb313, 4, none⟩ = some (.slice Ao58 t307.length co58) ∧ w'.cell? ⟨gb313, 5, none⟩ = some (.slice Ao59 t310.length co59) ∧ w'.cell? ⟨gb270, 0, none⟩ = some (.string a0_0) ∧ w'.cell? ⟨gb270, 1, none⟩ = some (.string a0_1) ∧ w'.cell? ⟨gb270, 2, none⟩ = some (.slice A0_2 l0_2.length c0_2) ∧ w'.cell? ⟨gb270, 3, none⟩ = some (.slice A0_3 l0_3.length c0_3) ∧ w'.cell? ⟨gb270, 4, none⟩ = some (.slice A0_4 l0_4.length c0_4) ∧ w'.cell? ⟨gb270, 5, none⟩ = some (.slice A0_5 l0_5.length c0_5)) (ds := []) #[false, false, false, false, false] (by kernel_rfl) rfl rfl ⟨(blk_cell BK313.out 0).trans rfl, (blk_cell BK313.out 1).trans rfl, (blk_cell BK313.out 2).trans rfl, (blk_cell BK313.out 3).trans rfl, (blk_cell BK313.out 4).trans rfl, (blk_cell BK313.out 5).trans rfl, (blk_cell BK270.out 0).trans rfl, (blk_cell BK270.out 1).trans rfl, (blk_cell BK270.out 2).trans rfl, (blk_cell BK270.out 3).trans rfl, (blk_cell BK270.out 4).trans rfl, (blk_cell BK270.out 5).trans rfl⟩ (fun hHeld => ?_)
          generalize w73.drew = w78 at HO280 HO283 HO286 HO289 HO294 HO303 HO306 HO309 HO312 HO318 BK270 BK271 BK272 BK313 BK319 HB hHeld ⊢
          refine take_ (i := 0) (N := some 46) (v := ?_) (a' := ?_) #[true, false, false, false, false] rfl rfl (by kernel_rfl) (fun _ _ _ h => h) (Or.inl ⟨by rfl, ?_⟩) hHeld ?_ ?_
          rotate_left
          · rintro w' ⟨s0, s1, s2, s3, s4, s5, s6, s7, s8, s9, s10, s11⟩
            go_simp
            with_reducible rfl
          rotate_left
          · simp only [Act.put, List.setIfInBounds_toArray, List.set_cons_zero, List.set_cons_succ, i64_w, i32_w]
            rfl
          refine take_ (i := 1) (N := some 47) (v := ?_) (a' := ?_) #[true, true, false, false, false] rfl rfl (by kernel_rfl) (fun _ _ _ h => h) (Or.inl ⟨by rfl, ?_⟩) hHeld ?_ ?_
          rotate_left
          · rintro w' ⟨s0, s1, s2, s3, s4, s5, s6, s7, s8, s9, s10, s11⟩
            go_simp
            with_reducible rfl
          rotate_left
          · simp only [Act.put, List.setIfInBounds_toArray, List.set_cons_zero, List.set_cons_succ, i64_w, i32_w]
            rfl
          refine one_ (i := 2) (N := some 48) #[true, true, true, false, false] rfl rfl (by kernel_rfl) (by decide) (fun K hK => ?_)
          refine goes_ Try.func38 (by kernel_rfl) rfl #[.agg #[.string a0_0, .string a0_1, .slice A0_2 l0_2.length c0_2, .slice A0_3 l0_3.length c0_3, .slice A0_4 l0_4.length c0_4, .slice A0_5 l0_5.length c0_5]] (by rfl) rfl rfl (by (try simp only [List.map_toArray, List.map_cons, List.map_nil]); first | done | rfl | (simp only [List.length_drop, List.length_take]; rfl)) ?_
          with_reducible refine (laws_toFrame.calls k a0_0 a0_1 _ _ l0_2 _ _ l0_3 _ _ l0_4 _ _ l0_5 t324 t325 t326 t329 t332 t335 _ ?side1 ?side2 ?side3 ?side4 ?side5 ?side6 ?side7 ?side8 A75.out).mono ?_
          (case side1 => repeat (first | exact (Kd.C_below HR0_2.out HB.out) | (with_reducible refine Kd.C_alloc ?_ _) | (with_reducible refine Kd.C_drewN ?_ _) | (with_reducible refine Kd.C_drew ?_)))
          (case side2 => exact HC0_2.out)
          (case side3 => repeat (first | exact (Kd.C_below HR0_3.out HB.out) | (with_reducible refine Kd.C_alloc ?_ _) | (with_reducible refine Kd.C_drewN ?_ _) | (with_reducible refine Kd.C_drew ?_)))
          (case side4 => exact HC0_3.out)
          (case side5 => repeat (first | exact (Kd.C_below HR0_4.out HB.out) | (with_reducible refine Kd.C_alloc ?_ _) | (with_reducible refine Kd.C_drewN ?_ _) | (with_reducible refine Kd.C_drew ?_)))
          (case side6 => exact HC0_4.out)
          (case side7 => repeat (first | exact (Kd.C_below HR0_5.out HB.out) | (with_reducible refine Kd.C_alloc ?_ _) | (with_reducible refine Kd.C_drewN ?_ _) | (with_reducible refine Kd.C_drew ?_)))
          (case side8 => exact HC0_5.out)
          rintro e w79 ⟨v327, v330, v333, v336, rfl, ho0, ho1, ho2, ho3, hb⟩
          refine ⟨_, rfl, ?_⟩
          have n0_ := Aside0.mk (Kd.S_mono (Kd.S_told (Kd.S_told (Kd.S_told (Kd.S_told (Kd.S_old (by (with_reducible repeat (first | apply Kd.S_alloc | apply Kd.S_drewN | apply Kd.S_drew)); exact HO280.out) hb) (Kd.S_base ho0)) (Kd.R_base ho1)) (Kd.S_base ho2)) (Kd.S_base ho3)) (fun _ h_ => h_.1))
          have n1_ := Aside0.mk (Kd.R_elder' (by (with_reducible repeat (first | apply Kd.R_alloc | apply Kd.R_drewN | apply Kd.R_drew)); exact HO283.out) (Kd.R_base ho1) hb)
          have n2_ := Aside0.mk (Kd.S_mono (Kd.S_told (Kd.S_told (Kd.S_told (Kd.S_told (Kd.S_old (by (with_reducible repeat (first | apply Kd.S_alloc | apply Kd.S_drewN | apply Kd.S_drew)); exact HO286.out) hb) (Kd.S_base ho0)) (Kd.R_base ho1)) (Kd.S_base ho2)) (Kd.S_base ho3)) (fun _ h_ => h_.1))
          have n3_ := Aside0.mk (Kd.S_mono (Kd.S_told (Kd.S_told (Kd.S_told (Kd.S_told (Kd.S_old (by (with_reducible repeat (first | apply Kd.S_alloc | apply Kd.S_drewN | apply Kd.S_drew)); exact HO289.out) hb) (Kd.S_base ho0)) (Kd.R_base ho1)) (Kd.S_base ho2)) (Kd.S_base ho3)) (fun _ h_ => h_.1))
          have n4_ := Aside0.mk (Kd.R_elder' (by (with_reducible repeat (first | apply Kd.R_alloc | apply Kd.R_drewN | apply Kd.R_drew)); exact HO294.out) (Kd.R_base ho1) hb)
          have n5_ := Aside0.mk (Kd.S_mono (Kd.S_told (Kd.S_told (Kd.S_told (Kd.S_told (Kd.S_old (by (with_reducible repeat (first | apply Kd.S_alloc | apply Kd.S_drewN | apply Kd.S_drew)); exact HO303.out) hb) (Kd.S_base ho0)) (Kd.R_base ho1)) (Kd.S_base ho2)) (Kd.S_base ho3)) (fun _ h_ => h_.1))
          have n6_ := Aside0.mk (Kd.R_elder' (by (with_reducible repeat (first | apply Kd.R_alloc | apply Kd.R_drewN | apply Kd.R_drew)); exact HO306.out) (Kd.R_base ho1) hb)
          have n7_ := Aside0.mk (Kd.S_mono (Kd.S_told (Kd.S_told (Kd.S_told (Kd.S_told (Kd.S_old (by (with_reducible repeat (first | apply Kd.S_alloc | apply Kd.S_drewN | apply Kd.S_drew)); exact HO309.out) hb) (Kd.S_base ho0)) (Kd.R_base ho1)) (Kd.S_base ho2)) (Kd.S_base ho3)) (fun _ h_ => h_.1))
          have n8_ := Aside0.mk (Kd.S_mono (Kd.S_told (Kd.S_told (Kd.S_told (Kd.S_told (Kd.S_old (by (with_reducible repeat (first | apply Kd.S_alloc | apply Kd.S_drewN | apply Kd.S_drew)); exact HO312.out) hb) (Kd.S_base ho0)) (Kd.R_base ho1)) (Kd.S_base ho2)) (Kd.S_base ho3)) (fun _ h_ => h_.1))
          have n9_ := Aside0.mk (Kd.R_elder' (by (with_reducible repeat (first | apply Kd.R_alloc | apply Kd.R_drewN | apply Kd.R_drew)); exact HO318.out) (Kd.R_base ho1) hb)
          have n10_ := Aside0.mk (Kd.S_lower (Kd.S_new' (Kd.S_new' (Kd.S_new' (Kd.S_new' (Kd.S_new' (Kd.S_new' (Kd.S_new' (Kd.S_new' (Kd.S_new' (Kd.S_new' ho0 (Kd.S_lt (by (with_reducible repeat (first | apply Kd.S_alloc | apply Kd.S_drewN | apply Kd.S_drew)); exact HO280.out))) (Kd.R_lt (by (with_reducible repeat (first | apply Kd.R_alloc | apply Kd.R_drewN | apply Kd.R_drew)); exact HO283.out))) (Kd.S_lt (by (with_reducible repeat (first | apply Kd.S_alloc | apply Kd.S_drewN | apply Kd.S_drew)); exact HO286.out))) (Kd.S_lt (by (with_reducible repeat (first | apply Kd.S_alloc | apply Kd.S_drewN | apply Kd.S_drew)); exact HO289.out))) (Kd.R_lt (by (with_reducible repeat (first | apply Kd.R_alloc | apply Kd.R_drewN | apply Kd.R_drew)); exact HO294.out))) (Kd.S_lt (by (with_reducible repeat (first | apply Kd.S_alloc | apply Kd.S_drewN | apply Kd.S_drew)); exact HO303.out))) (Kd.R_lt (by (with_reducible repeat (first | apply Kd.R_alloc | apply Kd.R_drewN | apply Kd.R_drew)); exact HO306.out))) (Kd.S_lt (by (with_reducible repeat (first | apply Kd.S_alloc | apply Kd.S_drewN | apply Kd.S_drew)); exact HO309.out))) (Kd.S_lt (by (with_reducible repeat (first | apply Kd.S_alloc | apply Kd.S_drewN | apply Kd.S_drew)); exact HO312.out))) (Kd.R_lt (by (with_reducible repeat (first | apply Kd.R_alloc | apply Kd.R_drewN | apply Kd.R_drew)); exact HO318.out))) (below_size (by repeat (first | (with_reducible first | exact HB.out | apply below_alloc | apply pw_below_drewN | apply below_drew1 | refine below_set ?_ GE270.out | refine below_set ?_ GE271.out | refine below_set ?_ GE272.out | refine below_set ?_ GE313.out | refine below_set ?_ GE319.out) | exact HB.out))))
          have n11_ := Aside0.mk (Kd.R_lower (Kd.R_new' (Kd.R_new' (Kd.R_new' (Kd.R_new' ho1 (Kd.R_lt (by (with_reducible repeat (first | apply Kd.R_alloc | apply Kd.R_drewN | apply Kd.R_drew)); exact HO283.out))) (Kd.R_lt (by (with_reducible repeat (first | apply Kd.R_alloc | apply Kd.R_drewN | apply Kd.R_drew)); exact HO294.out))) (Kd.R_lt (by (with_reducible repeat (first | apply Kd.R_alloc | apply Kd.R_drewN | apply Kd.R_drew)); exact HO306.out))) (Kd.R_lt (by (with_reducible repeat (first | apply Kd.R_alloc | apply Kd.R_drewN | apply Kd.R_drew)); exact HO318.out))) (below_size (by repeat (first | (with_reducible first | exact HB.out | apply below_alloc | apply pw_below_drewN | apply below_drew1 | refine below_set ?_ GE270.out | refine below_set ?_ GE271.out | refine below_set ?_ GE272.out | refine below_set ?_ GE313.out | refine below_set ?_ GE319.out) | exact HB.out))))
          have n12_ := Aside0.mk (Kd.S_lower (Kd.S_new' (Kd.S_new' (Kd.S_new' (Kd.S_new' (Kd.S_new' (Kd.S_new' (Kd.S_new' (Kd.S_new' (Kd.S_new' (Kd.S_new' ho2 (Kd.S_lt (by (with_reducible repeat (first | apply Kd.S_alloc | apply Kd.S_drewN | apply Kd.S_drew)); exact HO280.out))) (Kd.R_lt (by (with_reducible repeat (first | apply Kd.R_alloc | apply Kd.R_drewN | apply Kd.R_drew)); exact HO283.out))) (Kd.S_lt (by (with_reducible repeat (first | apply Kd.S_alloc | apply Kd.S_drewN | apply Kd.S_drew)); exact HO286.out))) (Kd.S_lt (by (with_reducible repeat (first | apply Kd.S_alloc | apply Kd.S_drewN | apply Kd.S_drew)); exact HO289.out))) (Kd.R_lt (by (with_reducible repeat (first | apply Kd.R_alloc | apply Kd.R_drewN | apply Kd.R_drew)); exact HO294.out))) (Kd.S_lt (by (with_reducible repeat (first | apply Kd.S_alloc | apply Kd.S_drewN | apply Kd.S_drew)); exact HO303.out))) (Kd.R_lt (by (with_reducible repeat (first | apply Kd.R_alloc | apply Kd.R_drewN | apply Kd.R_drew)); exact HO306.out))) (Kd.S_lt (by (with_reducible repeat (first | apply Kd.S_alloc | apply Kd.S_drewN | apply Kd.S_drew)); exact HO309.out))) (Kd.S_lt (by (with_reducible repeat (first | apply Kd.S_alloc | apply Kd.S_drewN | apply Kd.S_drew)); exact HO312.out))) (Kd.R_lt (by (with_reducible repeat (first | apply Kd.R_alloc | apply Kd.R_drewN | apply Kd.R_drew)); exact HO318.out))) (below_size (by repeat (first | (with_reducible first | exact HB.out | apply below_alloc | apply pw_below_drewN | apply below_drew1 | refine below_set ?_ GE270.out | refine below_set ?_ GE271.out | refine below_set ?_ GE272.out | refine below_set ?_ GE313.out | refine below_set ?_ GE319.out) | exact HB.out))))
          have n13_ := Aside0.mk (Kd.S_lower (Kd.S_new' (Kd.S_new' (Kd.S_new' (Kd.S_new' (Kd.S_new' (Kd.S_new' (Kd.S_new' (Kd.S_new' (Kd.S_new' (Kd.S_new' ho3 (Kd.S_lt (by (with_reducible repeat (first | apply Kd.S_alloc | apply Kd.S_drewN | apply Kd.S_drew)); exact HO280.out))) (Kd.R_lt (by (with_reducible repeat (first | apply Kd.R_alloc | apply Kd.R_drewN | apply Kd.R_drew)); exact HO283.out))) (Kd.S_lt (by (with_reducible repeat (first | apply Kd.S_alloc | apply Kd.S_drewN | apply Kd.S_drew)); exact HO286.out))) (Kd.S_lt (by (with_reducible repeat (first | apply Kd.S_alloc | apply Kd.S_drewN | apply Kd.S_drew)); exact HO289.out))) (Kd.R_lt (by (with_reducible repeat (first | apply Kd.R_alloc | apply Kd.R_drewN | apply Kd.R_drew)); exact HO294.out))) (Kd.S_lt (by (with_reducible repeat (first | apply Kd.S_alloc | apply Kd.S_drewN | apply Kd.S_drew)); exact HO303.out))) (Kd.R_lt (by (with_reducible repeat (first | apply Kd.R_alloc | apply Kd.R_drewN | apply Kd.R_drew)); exact HO306.out))) (Kd.S_lt (by (with_reducible repeat (first | apply Kd.S_alloc | apply Kd.S_drewN | apply Kd.S_drew)); exact HO309.out))) (Kd.S_lt (by (with_reducible repeat (first | apply Kd.S_alloc | apply Kd.S_drewN | apply Kd.S_drew)); exact HO312.out))) (Kd.R_lt (by (with_reducible repeat (first | apply Kd.R_alloc | apply Kd.R_drewN | apply Kd.R_drew)); exact HO318.out))) (below_size (by repeat (first | (with_reducible first | exact HB.out | apply below_alloc | apply pw_below_drewN | apply below_drew1 | refine below_set ?_ GE270.out | refine below_set ?_ GE271.out | refine below_set ?_ GE272.out | refine below_set ?_ GE313.out | refine below_set ?_ GE319.out) | exact HB.out))))
          have n14_ := Aside0.mk (blk_below (g := gb270) (o := .cells #[.string a0_0, .string a0_1, .slice A0_2 l0_2.length c0_2, .slice A0_3 l0_3.length c0_3, .slice A0_4 l0_4.length c0_4, .slice A0_5 l0_5.length c0_5] 68 (0, 0)) (by (with_reducible repeat (first | refine blk_drewN ?_ _ | refine blk_drew ?_ | refine blk_alloc ?_ _)); exact BK270.out) hb)
          have n15_ := Aside0.mk (blk_below (g := gb271) (o := .cells #[.string a1_0, .string a1_1, .slice A1_2 l1_2.length c1_2] 40 (0, 0)) (by (with_reducible repeat (first | refine blk_drewN ?_ _ | refine blk_drew ?_ | refine blk_alloc ?_ _)); exact BK271.out) hb)
          have n16_ := Aside0.mk (blk_below (g := gb272) (o := .cells #[.string a2_0, .string a2_1, .string a2_2] 52 (0, 0)) (by (with_reducible repeat (first | refine blk_drewN ?_ _ | refine blk_drew ?_ | refine blk_alloc ?_ _)); exact BK272.out) hb)
          have n17_ := Aside0.mk (blk_below (g := gb313) (o := .cells #[.string t299, .string t300, .slice Ao56 t301.length co56, .slice Ao57 t304.length co57, .slice Ao58 t307.length co58, .slice Ao59 t310.length co59] 75 (0, 0)) (by (with_reducible repeat (first | refine blk_drewN ?_ _ | refine blk_drew ?_ | refine blk_alloc ?_ _)); exact BK313.out) hb)
          have n18_ := Aside0.mk (blk_below (g := gb319) (o := .cells #[.string t314, .string t315, .slice Ao69 t316.length co69] 46 (0, 0)) (by (with_reducible repeat (first | refine blk_drewN ?_ _ | refine blk_drew ?_ | refine blk_alloc ?_ _)); exact BK319.out) hb)
          have n19_ := Aside0.mk (below_step (by repeat (first | (with_reducible first | exact HB.out | apply below_alloc | apply pw_below_drewN | apply below_drew1 | refine below_set ?_ GE270.out | refine below_set ?_ GE271.out | refine below_set ?_ GE272.out | refine below_set ?_ GE313.out | refine below_set ?_ GE319.out) | exact HB.out)) hb)
          clear HO280
          clear HO283
          clear HO286
          clear HO289
          clear HO294
          clear HO303
          clear HO306
          clear HO309
          clear HO312
          clear HO318
          clear BK270
          clear BK271
          clear BK272
          clear BK313
          clear BK319
          clear HB
          have HO280 := n0_
          have HO283 := n1_
          have HO286 := n2_
          have HO289 := n3_
          have HO294 := n4_
          have HO303 := n5_
          have HO306 := n6_
          have HO309 := n7_
          have HO312 := n8_
          have HO318 := n9_
          have HO328 := n10_
          have HO331 := n11_
          have HO334 := n12_
          have HO337 := n13_
          have BK270 := n14_
          have BK271 := n15_
          have BK272 := n16_
          have BK313 := n17_
          have BK319 := n18_
          have HB := n19_
          clear n0_ n1_ n2_ n3_ n4_ n5_ n6_ n7_ n8_ n9_ n10_ n11_ n12_ n13_ n14_ n15_ n16_ n17_ n18_ n19_
          (try clear hb)
          (try clear hb2)
          (try clear hk)
          (try clear hi)
          (try clear ho0)
          (try clear ho1)
          (try clear ho2)
          (try clear ho3)
          obtain ⟨Ao80, co80, eo80⟩ := Kd.S_slice HO328.out
          (first | subst eo80 | (injection eo80 with f1_ f2_ f3_; have f4_ := f1_.symm; have f5_ := f3_.symm; clear f1_ f2_ f3_; subst f4_; subst f5_))
          obtain ⟨Ao81, co81, eo81⟩ := Kd.R_slice HO331.out
          (first | subst eo81 | (injection eo81 with f1_ f2_ f3_; have f4_ := f1_.symm; have f5_ := f3_.symm; clear f1_ f2_ f3_; subst f4_; subst f5_))
          obtain ⟨Ao82, co82, eo82⟩ := Kd.S_slice HO334.out
          (first | subst eo82 | (injection eo82 with f1_ f2_ f3_; have f4_ := f1_.symm; have f5_ := f3_.symm; clear f1_ f2_ f3_; subst f4_; subst f5_))
          obtain ⟨Ao83, co83, eo83⟩ := Kd.S_slice HO337.out
          (first | subst eo83 | (injection eo83 with f1_ f2_ f3_; have f4_ := f1_.symm; have f5_ := f3_.symm; clear f1_ f2_ f3_; subst f4_; subst f5_))
          refine hK.out _ _ ⟨(blk_cell BK313.out 0).trans rfl, (blk_cell BK313.out 1).trans rfl, (blk_cell BK313.out 2).trans rfl, (blk_cell BK313.out 3).trans rfl, (blk_cell BK313.out 4).trans rfl, (blk_cell BK313.out 5).trans rfl, (blk_cell BK270.out 0).trans rfl, (blk_cell BK270.out 1).trans rfl, (blk_cell BK270.out 2).trans rfl, (blk_cell BK270.out 3).trans rfl, (blk_cell BK270.out 4).trans rfl, (blk_cell BK270.out 5).trans rfl⟩ (fun hHeld => ?_)
          clear hK K
          refine norm_ (a' := ?_) ?_ ?_
          rotate_left
          · show Act.put _ (some 48) _ = _
            simp only [Act.put, List.setIfInBounds_toArray, List.set_cons_zero, List.set_cons_succ, i64_w, i32_w]
            rfl
          refine one_ (i := 3) (N := some 49) #[true, true, true, true, false] rfl rfl (by kernel_rfl) (by decide) (fun K hK => ?_)
          refine goes_ Try.func41 (by kernel_rfl) rfl #[.agg #[.string t299, .string t300, .slice Ao56 t301.length co56, .slice Ao57 t304.length co57, .slice Ao58 t307.length co58, .slice Ao59 t310.length co59], .agg #[.string t324, .string t325, .slice Ao80 t326.length co80, .slice Ao81 t329.length co81, .slice Ao82 t332.length co82, .slice Ao83 t335.length co83]] (by rfl) rfl rfl (by (try simp only [List.map_toArray, List.map_cons, List.map_nil]); first | done | rfl | (simp only [List.length_drop, List.length_take]; rfl)) ?_
          with_reducible refine (laws_eqFrame.calls k t299 t300 _ _ t301 _ _ t304 _ _ t307 _ _ t310 t324 t325 _ _ t326 _ _ t329 _ _ t332 _ _ t335 t338 _ ?side1 ?side2 ?side3 ?side4 ?side5 ?side6 ?side7 ?side8 ?side9 ?side10 ?side11 ?side12 ?side13 ?side14 ?side15 ?side16 A76.out).mono ?_
          (case side1 => repeat (first | exact (Kd.S_reads' HO303.out).2.2 | (with_reducible refine Kd.C_alloc ?_ _) | (with_reducible refine Kd.C_drewN ?_ _) | (with_reducible refine Kd.C_drew ?_)))
          (case side2 => exact (Kd.S_reads' HO303.out).2.1)
          (case side3 => repeat (first | exact (Kd.R_reads' HO306.out).2.2 | (with_reducible refine Kd.C_alloc ?_ _) | (with_reducible refine Kd.C_drewN ?_ _) | (with_reducible refine Kd.C_drew ?_)))
          (case side4 => exact (Kd.R_reads' HO306.out).2.1)
          (case side5 => repeat (first | exact (Kd.S_reads' HO309.out).2.2 | (with_reducible refine Kd.C_alloc ?_ _) | (with_reducible refine Kd.C_drewN ?_ _) | (with_reducible refine Kd.C_drew ?_)))
          (case side6 => exact (Kd.S_reads' HO309.out).2.1)
          (case side7 => repeat (first | exact (Kd.S_reads' HO312.out).2.2 | (with_reducible refine Kd.C_alloc ?_ _) | (with_reducible refine Kd.C_drewN ?_ _) | (with_reducible refine Kd.C_drew ?_)))
          (case side8 => exact (Kd.S_reads' HO312.out).2.1)
          (case side9 => repeat (first | exact (Kd.S_reads' HO328.out).2.2 | (with_reducible refine Kd.C_alloc ?_ _) | (with_reducible refine Kd.C_drewN ?_ _) | (with_reducible refine Kd.C_drew ?_)))
          (case side10 => exact (Kd.S_reads' HO328.out).2.1)
          (case side11 => repeat (first | exact (Kd.R_reads' HO331.out).2.2 | (with_reducible refine Kd.C_alloc ?_ _) | (with_reducible refine Kd.C_drewN ?_ _) | (with_reducible refine Kd.C_drew ?_)))
          (case side12 => exact (Kd.R_reads' HO331.out).2.1)
          (case side13 => repeat (first | exact (Kd.S_reads' HO334.out).2.2 | (with_reducible refine Kd.C_alloc ?_ _) | (with_reducible refine Kd.C_drewN ?_ _) | (with_reducible refine Kd.C_drew ?_)))
          (case side14 => exact (Kd.S_reads' HO334.out).2.1)
          (case side15 => repeat (first | exact (Kd.S_reads' HO337.out).2.2 | (with_reducible refine Kd.C_alloc ?_ _) | (with_reducible refine Kd.C_drewN ?_ _) | (with_reducible refine Kd.C_drew ?_)))
          (case side16 => exact (Kd.S_reads' HO337.out).2.1)
          rintro e w84 ⟨rfl, hb⟩
          refine ⟨_, rfl, ?_⟩
          have n0_ := Aside0.mk (Kd.S_below (by (with_reducible repeat (first | apply Kd.S_alloc | apply Kd.S_drewN | apply Kd.S_drew)); exact HO280.out) hb)
          have n1_ := Aside0.mk (Kd.R_below (by (with_reducible repeat (first | apply Kd.R_alloc | apply Kd.R_drewN | apply Kd.R_drew)); exact HO283.out) hb)
          have n2_ := Aside0.mk (Kd.S_below (by (with_reducible repeat (first | apply Kd.S_alloc | apply Kd.S_drewN | apply Kd.S_drew)); exact HO286.out) hb)
          have n3_ := Aside0.mk (Kd.S_below (by (with_reducible repeat (first | apply Kd.S_alloc | apply Kd.S_drewN | apply Kd.S_drew)); exact HO289.out) hb)
          have n4_ := Aside0.mk (Kd.R_below (by (with_reducible repeat (first | apply Kd.R_alloc | apply Kd.R_drewN | apply Kd.R_drew)); exact HO294.out) hb)
          have n5_ := Aside0.mk (Kd.S_below (by (with_reducible repeat (first | apply Kd.S_alloc | apply Kd.S_drewN | apply Kd.S_drew)); exact HO303.out) hb)
          have n6_ := Aside0.mk (Kd.R_below (by (with_reducible repeat (first | apply Kd.R_alloc | apply Kd.R_drewN | apply Kd.R_drew)); exact HO306.out) hb)
          have n7_ := Aside0.mk (Kd.S_below (by (with_reducible repeat (first | apply Kd.S_alloc | apply Kd.S_drewN | apply Kd.S_drew)); exact HO309.out) hb)
          have n8_ := Aside0.mk (Kd.S_below (by (with_reducible repeat (first | apply Kd.S_alloc | apply Kd.S_drewN | apply Kd.S_drew)); exact HO312.out) hb)
          have n9_ := Aside0.mk (Kd.R_below (by (with_reducible repeat (first | apply Kd.R_alloc | apply Kd.R_drewN | apply Kd.R_drew)); exact HO318.out) hb)
          have n10_ := Aside0.mk (Kd.S_below (by (with_reducible repeat (first | apply Kd.S_alloc | apply Kd.S_drewN | apply Kd.S_drew)); exact HO328.out) hb)
          have n11_ := Aside0.mk (Kd.R_below (by (with_reducible repeat (first | apply Kd.R_alloc | apply Kd.R_drewN | apply Kd.R_drew)); exact HO331.out) hb)
          have n12_ := Aside0.mk (Kd.S_below (by (with_reducible repeat (first | apply Kd.S_alloc | apply Kd.S_drewN | apply Kd.S_drew)); exact HO334.out) hb)
          have n13_ := Aside0.mk (Kd.S_below (by (with_reducible repeat (first | apply Kd.S_alloc | apply Kd.S_drewN | apply Kd.S_drew)); exact HO337.out) hb)
          have n14_ := Aside0.mk (blk_below (g := gb270) (o := .cells #[.string a0_0, .string a0_1, .slice A0_2 l0_2.length c0_2, .slice A0_3 l0_3.length c0_3, .slice A0_4 l0_4.length c0_4, .slice A0_5 l0_5.length c0_5] 68 (0, 0)) (by (with_reducible repeat (first | refine blk_drewN ?_ _ | refine blk_drew ?_ | refine blk_alloc ?_ _)); exact BK270.out) hb)
          have n15_ := Aside0.mk (blk_below (g := gb271) (o := .cells #[.string a1_0, .string a1_1, .slice A1_2 l1_2.length c1_2] 40 (0, 0)) (by (with_reducible repeat (first | refine blk_drewN ?_ _ | refine blk_drew ?_ | refine blk_alloc ?_ _)); exact BK271.out) hb)
          have n16_ := Aside0.mk (blk_below (g := gb272) (o := .cells #[.string a2_0, .string a2_1, .string a2_2] 52 (0, 0)) (by (with_reducible repeat (first | refine blk_drewN ?_ _ | refine blk_drew ?_ | refine blk_alloc ?_ _)); exact BK272.out) hb)
          have n17_ := Aside0.mk (blk_below (g := gb313) (o := .cells #[.string t299, .string t300, .slice Ao56 t301.length co56, .slice Ao57 t304.length co57, .slice Ao58 t307.length co58, .slice Ao59 t310.length co59] 75 (0, 0)) (by (with_reducible repeat (first | refine blk_drewN ?_ _ | refine blk_drew ?_ | refine blk_alloc ?_ _)); exact BK313.out) hb)
          have n18_ := Aside0.mk (blk_below (g := gb319) (o := .cells #[.string t314, .string t315, .slice Ao69 t316.length co69] 46 (0, 0)) (by (with_reducible repeat (first | refine blk_drewN ?_ _ | refine blk_drew ?_ | refine blk_alloc ?_ _)); exact BK319.out) hb)
          have n19_ := Aside0.mk (below_step (by repeat (first | (with_reducible first | exact HB.out | apply below_alloc | apply pw_below_drewN | apply below_drew1 | refine below_set ?_ GE270.out | refine below_set ?_ GE271.out | refine below_set ?_ GE272.out | refine below_set ?_ GE313.out | refine below_set ?_ GE319.out) | exact HB.out)) hb)
          clear HO280
          clear HO283
          clear HO286
          clear HO289
          clear HO294
          clear HO303
          clear HO306
          clear HO309
          clear HO312
          clear HO318
          clear HO328
          clear HO331
          clear HO334
          clear HO337
          clear BK270
          clear BK271
          clear BK272
          clear BK313
          clear BK319
          clear HB
          have HO280 := n0_
          have HO283 := n1_
          have HO286 := n2_
          have HO289 := n3_
          have HO294 := n4_
          have HO303 := n5_
          have HO306 := n6_
          have HO309 := n7_
          have HO312 := n8_
          have HO318 := n9_
          have HO328 := n10_
          have HO331 := n11_
          have HO334 := n12_
          have HO337 := n13_
          have BK270 := n14_
          have BK271 := n15_
          have BK272 := n16_
          have BK313 := n17_
          have BK319 := n18_
          have HB := n19_
          clear n0_ n1_ n2_ n3_ n4_ n5_ n6_ n7_ n8_ n9_ n10_ n11_ n12_ n13_ n14_ n15_ n16_ n17_ n18_ n19_
          (try clear hb)
          (try clear hb2)
          (try clear hk)
          (try clear hi)
          refine hK.out _ _ ⟨(blk_cell BK313.out 0).trans rfl, (blk_cell BK313.out 1).trans rfl, (blk_cell BK313.out 2).trans rfl, (blk_cell BK313.out 3).trans rfl, (blk_cell BK313.out 4).trans rfl, (blk_cell BK313.out 5).trans rfl, (blk_cell BK270.out 0).trans rfl, (blk_cell BK270.out 1).trans rfl, (blk_cell BK270.out 2).trans rfl, (blk_cell BK270.out 3).trans rfl, (blk_cell BK270.out 4).trans rfl, (blk_cell BK270.out 5).trans rfl⟩ (fun hHeld => ?_)
          clear hK K
          refine norm_ (a' := ?_) ?_ ?_
          rotate_left
          · show Act.put _ (some 49) _ = _
            simp only [Act.put, List.setIfInBounds_toArray, List.set_cons_zero, List.set_cons_succ, i64_w, i32_w]
            rfl
          refine pure_ (i := 4) (N := some 50) (v := ?_) (a' := ?_) #[true, true, true, true, true] rfl rfl (by kernel_rfl) (fun _ _ _ h => h) (Or.inl ⟨by rfl, ?_⟩) ?_ ?_
          rotate_left
          · intro w'
            go_simp
            with_reducible rfl
          rotate_left
          · simp only [Act.put, List.setIfInBounds_toArray, List.set_cons_zero, List.set_cons_succ, i64_w, i32_w]
            rfl
          refine done_ (by kernel_rfl) ?_
          go_upto_if 50 with (fail)
          (try simp only [Act.put, List.setIfInBounds_toArray, List.set_cons_zero, List.set_cons_succ])
          have H := HC77.out
          clear HC77
          by_cases c85 : t338 = true
          · subst c85
            (try simp only [Bool.not_true, Bool.not_false])
            have H1 : ((laws_toState.f k a1_0 a1_1 l1_2).bind fun bt339 => ((laws_eqState.f k t314 t315 t316 bt339.1 bt339.2.1 bt339.2.2).bind fun t344 => (if t344 = true then (some true) else (some false)))) = some r := by rw [if_pos rfl] at H; exact H
            clear H
            have H := H1
            clear H1
            replace H := Option.bind_eq_some_iff.mp H
            obtain ⟨⟨t339, t340, t341⟩, A860, H⟩ := H
            replace H : ((laws_eqState.f k t314 t315 t316 t339 t340 t341).bind fun t344 => (if t344 = true then (some true) else (some false))) = some r := H
            have A86 := Aside0.mk A860
            clear A860
            replace H := Option.bind_eq_some_iff.mp H
            obtain ⟨t344, A870, H⟩ := H
            replace H : (if t344 = true then (some true) else (some false)) = some r := H
            have A87 := Aside0.mk A870
            clear A870
            have HC88 := Aside0.mk H
            clear H
            try go_wp2
            have n0_ := Aside0.mk (Kd.S_drew HO280.out)
            have n1_ := Aside0.mk (Kd.R_drew HO283.out)
            have n2_ := Aside0.mk (Kd.S_drew HO286.out)
            have n3_ := Aside0.mk (Kd.S_drew HO289.out)
            have n4_ := Aside0.mk (Kd.R_drew HO294.out)
            have n5_ := Aside0.mk (Kd.S_drew HO303.out)
            have n6_ := Aside0.mk (Kd.R_drew HO306.out)
            have n7_ := Aside0.mk (Kd.S_drew HO309.out)
            have n8_ := Aside0.mk (Kd.S_drew HO312.out)
            have n9_ := Aside0.mk (Kd.R_drew HO318.out)
            have n10_ := Aside0.mk (Kd.S_drew HO328.out)
            have n11_ := Aside0.mk (Kd.R_drew HO331.out)
            have n12_ := Aside0.mk (Kd.S_drew HO334.out)
            have n13_ := Aside0.mk (Kd.S_drew HO337.out)
            have n14_ := Aside0.mk (blk_drew BK270.out)
            have n15_ := Aside0.mk (blk_drew BK271.out)
            have n16_ := Aside0.mk (blk_drew BK272.out)
            have n17_ := Aside0.mk (blk_drew BK313.out)
            have n18_ := Aside0.mk (blk_drew BK319.out)
            have n19_ := Aside0.mk (below_drew1 HB.out)
            clear HO280
            clear HO283
            clear HO286
            clear HO289
            clear HO294
            clear HO303
            clear HO306
            clear HO309
            clear HO312
            clear HO318
            clear HO328
            clear HO331
            clear HO334
            clear HO337
            clear BK270
            clear BK271
            clear BK272
            clear BK313
            clear BK319
            clear HB
            have HO280 := n0_
            have HO283 := n1_
            have HO286 := n2_
            have HO289 := n3_
            have HO294 := n4_
            have HO303 := n5_
            have HO306 := n6_
            have HO309 := n7_
            have HO312 := n8_
            have HO318 := n9_
            have HO328 := n10_
            have HO331 := n11_
            have HO334 := n12_
            have HO337 := n13_
            have BK270 := n14_
            have BK271 := n15_
            have BK272 := n16_
            have BK313 := n17_
            have BK319 := n18_
            have HB := n19_
            clear n0_ n1_ n2_ n3_ n4_ n5_ n6_ n7_ n8_ n9_ n10_ n11_ n12_ n13_ n14_ n15_ n16_ n17_ n18_ n19_
            refine start_ (n := 5) (S := fun w' => w'.cell? ⟨gb319, 0, none⟩ = some (.string t314) ∧ w'.cell? ⟨gb319, 1, none⟩ = some (.string t315) ∧ w'.cell? ⟨gb319, 2, none⟩ = some (.slice Ao69 t316.length co69) ∧ w'.cell? ⟨gb271, 0, none⟩ = some (.string a1_0) ∧ w'.cell? ⟨gb271, 1, none⟩ = some (.string a1_1) ∧ w'.cell? ⟨gb271, 2, none⟩ = some (.slice A1_2 l1_2.length c1_2)) (ds := []) #[false, false, false, false, false] (by kernel_rfl) rfl rfl ⟨(blk_cell BK319.out 0).trans rfl, (blk_cell BK319.out 1).trans rfl, (blk_cell BK319.out 2).trans rfl, (blk_cell BK271.out 0).trans rfl, (blk_cell BK271.out 1).trans rfl, (blk_cell BK271.out 2).trans rfl⟩ (fun hHeld => ?_)
            generalize w84.drew = w89 at HO280 HO283 HO286 HO289 HO294 HO303 HO306 HO309 HO312 HO318 HO328 HO331 HO334 HO337 BK270 BK271 BK272 BK313 BK319 HB hHeld ⊢
            refine take_ (i := 0) (N := some 51) (v := ?_) (a' := ?_) #[true, false, false, false, false] rfl rfl (by kernel_rfl) (fun _ _ _ h => h) (Or.inl ⟨by rfl, ?_⟩) hHeld ?_ ?_
            rotate_left
            · rintro w' ⟨s0, s1, s2, s3, s4, s5⟩
              go_simp
              with_reducible rfl
            rotate_left
            · simp only [Act.put, List.setIfInBounds_toArray, List.set_cons_zero, List.set_cons_succ, i64_w, i32_w]
              rfl
            refine take_ (i := 1) (N := some 52) (v := ?_) (a' := ?_) #[true, true, false, false, false] rfl rfl (by kernel_rfl) (fun _ _ _ h => h) (Or.inl ⟨by rfl, ?_⟩) hHeld ?_ ?_
            rotate_left
            · rintro w' ⟨s0, s1, s2, s3, s4, s5⟩
              go_simp
              with_reducible rfl
            rotate_left
            · simp only [Act.put, List.setIfInBounds_toArray, List.set_cons_zero, List.set_cons_succ, i64_w, i32_w]
              rfl
            refine one_ (i := 2) (N := some 53) #[true, true, true, false, false] rfl rfl (by kernel_rfl) (by decide) (fun K hK => ?_)
            refine goes_ Try.func26 (by kernel_rfl) rfl #[.agg #[.string a1_0, .string a1_1, .slice A1_2 l1_2.length c1_2]] (by rfl) rfl rfl (by (try simp only [List.map_toArray, List.map_cons, List.map_nil]); first | done | rfl | (simp only [List.length_drop, List.length_take]; rfl)) ?_
            with_reducible refine (laws_toState.calls k a1_0 a1_1 _ _ l1_2 t339 t340 t341 _ ?side1 ?side2 A86.out).mono ?_
            (case side1 => repeat (first | exact (Kd.C_below HR1_2.out HB.out) | (with_reducible refine Kd.C_alloc ?_ _) | (with_reducible refine Kd.C_drewN ?_ _) | (with_reducible refine Kd.C_drew ?_)))
            (case side2 => exact HC1_2.out)
            rintro e w90 ⟨v342, rfl, ho0, hb⟩
            refine ⟨_, rfl, ?_⟩
            have n0_ := Aside0.mk (Kd.S_elder' (by (with_reducible repeat (first | apply Kd.S_alloc | apply Kd.S_drewN | apply Kd.S_drew)); exact HO280.out) (Kd.R_base ho0) hb)
            have n1_ := Aside0.mk (Kd.R_elder' (by (with_reducible repeat (first | apply Kd.R_alloc | apply Kd.R_drewN | apply Kd.R_drew)); exact HO283.out) (Kd.R_base ho0) hb)
            have n2_ := Aside0.mk (Kd.S_elder' (by (with_reducible repeat (first | apply Kd.S_alloc | apply Kd.S_drewN | apply Kd.S_drew)); exact HO286.out) (Kd.R_base ho0) hb)
            have n3_ := Aside0.mk (Kd.S_elder' (by (with_reducible repeat (first | apply Kd.S_alloc | apply Kd.S_drewN | apply Kd.S_drew)); exact HO289.out) (Kd.R_base ho0) hb)
            have n4_ := Aside0.mk (Kd.R_elder' (by (with_reducible repeat (first | apply Kd.R_alloc | apply Kd.R_drewN | apply Kd.R_drew)); exact HO294.out) (Kd.R_base ho0) hb)
            have n5_ := Aside0.mk (Kd.S_elder' (by (with_reducible repeat (first | apply Kd.S_alloc | apply Kd.S_drewN | apply Kd.S_drew)); exact HO303.out) (Kd.R_base ho0) hb)
            have n6_ := Aside0.mk (Kd.R_elder' (by (with_reducible repeat (first | apply Kd.R_alloc | apply Kd.R_drewN | apply Kd.R_drew)); exact HO306.out) (Kd.R_base ho0) hb)
            have n7_ := Aside0.mk (Kd.S_elder' (by (with_reducible repeat (first | apply Kd.S_alloc | apply Kd.S_drewN | apply Kd.S_drew)); exact HO309.out) (Kd.R_base ho0) hb)
            have n8_ := Aside0.mk (Kd.S_elder' (by (with_reducible repeat (first | apply Kd.S_alloc | apply Kd.S_drewN | apply Kd.S_drew)); exact HO312.out) (Kd.R_base ho0) hb)
            have n9_ := Aside0.mk (Kd.R_elder' (by (with_reducible repeat (first | apply Kd.R_alloc | apply Kd.R_drewN | apply Kd.R_drew)); exact HO318.out) (Kd.R_base ho0) hb)
            have n10_ := Aside0.mk (Kd.S_elder' (by (with_reducible repeat (first | apply Kd.S_alloc | apply Kd.S_drewN | apply Kd.S_drew)); exact HO328.out) (Kd.R_base ho0) hb)
            have n11_ := Aside0.mk (Kd.R_elder' (by (with_reducible repeat (first | apply Kd.R_alloc | apply Kd.R_drewN | apply Kd.R_drew)); exact HO331.out) (Kd.R_base ho0) hb)
            have n12_ := Aside0.mk (Kd.S_elder' (by (with_reducible repeat (first | apply Kd.S_alloc | apply Kd.S_drewN | apply Kd.S_drew)); exact HO334.out) (Kd.R_base ho0) hb)
            have n13_ := Aside0.mk (Kd.S_elder' (by (with_reducible repeat (first | apply Kd.S_alloc | apply Kd.S_drewN | apply Kd.S_drew)); exact HO337.out) (Kd.R_base ho0) hb)
            have n14_ := Aside0.mk (Kd.R_lower (Kd.R_new' (Kd.R_new' (Kd.R_new' (Kd.R_new' (Kd.R_new' ho0 (Kd.R_lt (by (with_reducible repeat (first | apply Kd.R_alloc | apply Kd.R_drewN | apply Kd.R_drew)); exact HO283.out))) (Kd.R_lt (by (with_reducible repeat (first | apply Kd.R_alloc | apply Kd.R_drewN | apply Kd.R_drew)); exact HO294.out))) (Kd.R_lt (by (with_reducible repeat (first | apply Kd.R_alloc | apply Kd.R_drewN | apply Kd.R_drew)); exact HO306.out))) (Kd.R_lt (by (with_reducible repeat (first | apply Kd.R_alloc | apply Kd.R_drewN | apply Kd.R_drew)); exact HO318.out))) (Kd.R_lt (by (with_reducible repeat (first | apply Kd.R_alloc | apply Kd.R_drewN | apply Kd.R_drew)); exact HO331.out))) (below_size (by repeat (first | (with_reducible first | exact HB.out | apply below_alloc | apply pw_below_drewN | apply below_drew1 | refine below_set ?_ GE270.out | refine below_set ?_ GE271.out | refine below_set ?_ GE272.out | refine below_set ?_ GE313.out | refine below_set ?_ GE319.out) | exact HB.out))))
            have n15_ := Aside0.mk (blk_below (g := gb270) (o := .cells #[.string a0_0, .string a0_1, .slice A0_2 l0_2.length c0_2, .slice A0_3 l0_3.length c0_3, .slice A0_4 l0_4.length c0_4, .slice A0_5 l0_5.length c0_5] 68 (0, 0)) (by (with_reducible repeat (first | refine blk_drewN ?_ _ | refine blk_drew ?_ | refine blk_alloc ?_ _)); exact BK270.out) hb)
            have n16_ := Aside0.mk (blk_below (g := gb271) (o := .cells #[.string a1_0, .string a1_1, .slice A1_2 l1_2.length c1_2] 40 (0, 0)) (by (with_reducible repeat (first | refine blk_drewN ?_ _ | refine blk_drew ?_ | refine blk_alloc ?_ _)); exact BK271.out) hb)
            have n17_ := Aside0.mk (blk_below (g := gb272) (o := .cells #[.string a2_0, .string a2_1, .string a2_2] 52 (0, 0)) (by (with_reducible repeat (first | refine blk_drewN ?_ _ | refine blk_drew ?_ | refine blk_alloc ?_ _)); exact BK272.out) hb)
            have n18_ := Aside0.mk (blk_below (g := gb313) (o := .cells #[.string t299, .string t300, .slice Ao56 t301.length co56, .slice Ao57 t304.length co57, .slice Ao58 t307.length co58, .slice Ao59 t310.length co59] 75 (0, 0)) (by (with_reducible repeat (first | refine blk_drewN ?_ _ | refine blk_drew ?_ | refine blk_alloc ?_ _)); exact BK313.out) hb)
            have n19_ := Aside0.mk (blk_below (g := gb319) (o := .cells #[.string t314, .string t315, .slice Ao69 t316.length co69] 46 (0, 0)) (by (with_reducible repeat (first | refine blk_drewN ?_ _ | refine blk_drew ?_ | refine blk_alloc ?_ _)); exact BK319.out) hb)
            have n20_ := Aside0.mk (below_step (by repeat (first | (with_reducible first | exact HB.out | apply below_alloc | apply pw_below_drewN | apply below_drew1 | refine below_set ?_ GE270.out | refine below_set ?_ GE271.out | refine below_set ?_ GE272.out | refine below_set ?_ GE313.out | refine below_set ?_ GE319.out) | exact HB.out)) hb)
            clear HO280
            clear HO283
            clear HO286
            clear HO289
            clear HO294
            clear HO303
            clear HO306
            clear HO309
            clear HO312
            clear HO318
            clear HO328
            clear HO331
            clear HO334
            clear HO337
            clear BK270
            clear BK271
            clear BK272
            clear BK313
            clear BK319
            clear HB
            have HO280 := n0_
            have HO283 := n1_
            have HO286 := n2_
            have HO289 := n3_
            have HO294 := n4_
            have HO303 := n5_
            have HO306 := n6_
            have HO309 := n7_
            have HO312 := n8_
            have HO318 := n9_
            have HO328 := n10_
            have HO331 := n11_
            have HO334 := n12_
            have HO337 := n13_
            have HO343 := n14_
            have BK270 := n15_
            have BK271 := n16_
            have BK272 := n17_
            have BK313 := n18_
            have BK319 := n19_
            have HB := n20_
            clear n0_ n1_ n2_ n3_ n4_ n5_ n6_ n7_ n8_ n9_ n10_ n11_ n12_ n13_ n14_ n15_ n16_ n17_ n18_ n19_ n20_
            (try clear hb)
            (try clear hb2)
            (try clear hk)
            (try clear hi)
            (try clear ho0)
            obtain ⟨Ao91, co91, eo91⟩ := Kd.R_slice HO343.out
            (first | subst eo91 | (injection eo91 with f1_ f2_ f3_; have f4_ := f1_.symm; have f5_ := f3_.symm; clear f1_ f2_ f3_; subst f4_; subst f5_))
            refine hK.out _ _ ⟨(blk_cell BK319.out 0).trans rfl, (blk_cell BK319.out 1).trans rfl, (blk_cell BK319.out 2).trans rfl, (blk_cell BK271.out 0).trans rfl, (blk_cell BK271.out 1).trans rfl, (blk_cell BK271.out 2).trans rfl⟩ (fun hHeld => ?_)
            clear hK K
            refine norm_ (a' := ?_) ?_ ?_
            rotate_left
            · show Act.put _ (some 53) _ = _
              simp only [Act.put, List.setIfInBounds_toArray, List.set_cons_zero, List.set_cons_succ, i64_w, i32_w]
              rfl
            refine one_ (i := 3) (N := some 54) #[true, true, true, true, false] rfl rfl (by kernel_rfl) (by decide) (fun K hK => ?_)
            refine goes_ Try.func29 (by kernel_rfl) rfl #[.agg #[.string t314, .string t315, .slice Ao69 t316.length co69], .agg #[.string t339, .string t340, .slice Ao91 t341.length co91]] (by rfl) rfl rfl (by (try simp only [List.map_toArray, List.map_cons, List.map_nil]); first | done | rfl | (simp only [List.length_drop, List.length_take]; rfl)) ?_
            with_reducible refine (laws_eqState.calls k t314 t315 _ _ t316 t339 t340 _ _ t341 t344 _ ?side1 ?side2 ?side3 ?side4 A87.out).mono ?_
            (case side1 => repeat (first | exact (Kd.R_reads' HO318.out).2.2 | (with_reducible refine Kd.C_alloc ?_ _) | (with_reducible refine Kd.C_drewN ?_ _) | (with_reducible refine Kd.C_drew ?_)))
            (case side2 => exact (Kd.R_reads' HO318.out).2.1)
            (case side3 => repeat (first | exact (Kd.R_reads' HO343.out).2.2 | (with_reducible refine Kd.C_alloc ?_ _) | (with_reducible refine Kd.C_drewN ?_ _) | (with_reducible refine Kd.C_drew ?_)))
            (case side4 => exact (Kd.R_reads' HO343.out).2.1)
            rintro e w92 ⟨rfl, hb⟩
            refine ⟨_, rfl, ?_⟩
            have n0_ := Aside0.mk (Kd.S_below (by (with_reducible repeat (first | apply Kd.S_alloc | apply Kd.S_drewN | apply Kd.S_drew)); exact HO280.out) hb)
            have n1_ := Aside0.mk (Kd.R_below (by (with_reducible repeat (first | apply Kd.R_alloc | apply Kd.R_drewN | apply Kd.R_drew)); exact HO283.out) hb)
            have n2_ := Aside0.mk (Kd.S_below (by (with_reducible repeat (first | apply Kd.S_alloc | apply Kd.S_drewN | apply Kd.S_drew)); exact HO286.out) hb)
            have n3_ := Aside0.mk (Kd.S_below (by (with_reducible repeat (first | apply Kd.S_alloc | apply Kd.S_drewN | apply Kd.S_drew)); exact HO289.out) hb)
            have n4_ := Aside0.mk (Kd.R_below (by (with_reducible repeat (first | apply Kd.R_alloc | apply Kd.R_drewN | apply Kd.R_drew)); exact HO294.out) hb)
            have n5_ := Aside0.mk (Kd.S_below (by (with_reducible repeat (first | apply Kd.S_alloc | apply Kd.S_drewN | apply Kd.S_drew)); exact HO303.out) hb)
            have n6_ := Aside0.mk (Kd.R_below (by (with_reducible repeat (first | apply Kd.R_alloc | apply Kd.R_drewN | apply Kd.R_drew)); exact HO306.out) hb)
            have n7_ := Aside0.mk (Kd.S_below (by (with_reducible repeat (first | apply Kd.S_alloc | apply Kd.S_drewN | apply Kd.S_drew)); exact HO309.out) hb)
            have n8_ := Aside0.mk (Kd.S_below (by (with_reducible repeat (first | apply Kd.S_alloc | apply Kd.S_drewN | apply Kd.S_drew)); exact HO312.out) hb)
            have n9_ := Aside0.mk (Kd.R_below (by (with_reducible repeat (first | apply Kd.R_alloc | apply Kd.R_drewN | apply Kd.R_drew)); exact HO318.out) hb)
            have n10_ := Aside0.mk (Kd.S_below (by (with_reducible repeat (first | apply Kd.S_alloc | apply Kd.S_drewN | apply Kd.S_drew)); exact HO328.out) hb)
            have n11_ := Aside0.mk (Kd.R_below (by (with_reducible repeat (first | apply Kd.R_alloc | apply Kd.R_drewN | apply Kd.R_drew)); exact HO331.out) hb)
            have n12_ := Aside0.mk (Kd.S_below (by (with_reducible repeat (first | apply Kd.S_alloc | apply Kd.S_drewN | apply Kd.S_drew)); exact HO334.out) hb)
            have n13_ := Aside0.mk (Kd.S_below (by (with_reducible repeat (first | apply Kd.S_alloc | apply Kd.S_drewN | apply Kd.S_drew)); exact HO337.out) hb)
            have n14_ := Aside0.mk (Kd.R_below (by (with_reducible repeat (first | apply Kd.R_alloc | apply Kd.R_drewN | apply Kd.R_drew)); exact HO343.out) hb)
            have n15_ := Aside0.mk (blk_below (g := gb270) (o := .cells #[.string a0_0, .string a0_1, .slice A0_2 l0_2.length c0_2, .slice A0_3 l0_3.length c0_3, .slice A0_4 l0_4.length c0_4, .slice A0_5 l0_5.length c0_5] 68 (0, 0)) (by (with_reducible repeat (first | refine blk_drewN ?_ _ | refine blk_drew ?_ | refine blk_alloc ?_ _)); exact BK270.out) hb)
            have n16_ := Aside0.mk (blk_below (g := gb271) (o := .cells #[.string a1_0, .string a1_1, .slice A1_2 l1_2.length c1_2] 40 (0, 0)) (by (with_reducible repeat (first | refine blk_drewN ?_ _ | refine blk_drew ?_ | refine blk_alloc ?_ _)); exact BK271.out) hb)
            have n17_ := Aside0.mk (blk_below (g := gb272) (o := .cells #[.string a2_0, .string a2_1, .string a2_2] 52 (0, 0)) (by (with_reducible repeat (first | refine blk_drewN ?_ _ | refine blk_drew ?_ | refine blk_alloc ?_ _)); exact BK272.out) hb)
            have n18_ := Aside0.mk (blk_below (g := gb313) (o := .cells #[.string t299, .string t300, .slice Ao56 t301.length co56, .slice Ao57 t304.length co57, .slice Ao58 t307.length co58, .slice Ao59 t310.length co59] 75 (0, 0)) (by (with_reducible repeat (first | refine blk_drewN ?_ _ | refine blk_drew ?_ | refine blk_alloc ?_ _)); exact BK313.out) hb)
            have n19_ := Aside0.mk (blk_below (g := gb319) (o := .cells #[.string t314, .string t315, .slice Ao69 t316.length co69] 46 (0, 0)) (by (with_reducible repeat (first | refine blk_drewN ?_ _ | refine blk_drew ?_ | refine blk_alloc ?_ _)); exact BK319.out) hb)
            have n20_ := Aside0.mk (below_step (by repeat (first | (with_reducible first | exact HB.out | apply below_alloc | apply pw_below_drewN | apply below_drew1 | refine below_set ?_ GE270.out | refine below_set ?_ GE271.out | refine below_set ?_ GE272.out | refine below_set ?_ GE313.out | refine below_set ?_ GE319.out) | exact HB.out)) hb)
            clear HO280
            clear HO283
            clear HO286
            clear HO289
            clear HO294
            clear HO303
            clear HO306
            clear HO309
            clear HO312
            clear HO318
            clear HO328
            clear HO331
            clear HO334
            clear HO337
            clear HO343
            clear BK270
            clear BK271
            clear BK272
            clear BK313
            clear BK319
            clear HB
            have HO280 := n0_
            have HO283 := n1_
            have HO286 := n2_
            have HO289 := n3_
            have HO294 := n4_
            have HO303 := n5_
            have HO306 := n6_
            have HO309 := n7_
            have HO312 := n8_
            have HO318 := n9_
            have HO328 := n10_
            have HO331 := n11_
            have HO334 := n12_
            have HO337 := n13_
            have HO343 := n14_
            have BK270 := n15_
            have BK271 := n16_
            have BK272 := n17_
            have BK313 := n18_
            have BK319 := n19_
            have HB := n20_
            clear n0_ n1_ n2_ n3_ n4_ n5_ n6_ n7_ n8_ n9_ n10_ n11_ n12_ n13_ n14_ n15_ n16_ n17_ n18_ n19_ n20_
            (try clear hb)
            (try clear hb2)
            (try clear hk)
            (try clear hi)
            refine hK.out _ _ ⟨(blk_cell BK319.out 0).trans rfl, (blk_cell BK319.out 1).trans rfl, (blk_cell BK319.out 2).trans rfl, (blk_cell BK271.out 0).trans rfl, (blk_cell BK271.out 1).trans rfl, (blk_cell BK271.out 2).trans rfl⟩ (fun hHeld => ?_)
            clear hK K
            refine norm_ (a' := ?_) ?_ ?_
            rotate_left
            · show Act.put _ (some 54) _ = _
              simp only [Act.put, List.setIfInBounds_toArray, List.set_cons_zero, List.set_cons_succ, i64_w, i32_w]
              rfl
            refine pure_ (i := 4) (N := some 55) (v := ?_) (a' := ?_) #[true, true, true, true, true] rfl rfl (by kernel_rfl) (fun _ _ _ h => h) (Or.inl ⟨by rfl, ?_⟩) ?_ ?_
            rotate_left
            · intro w'
              go_simp
              with_reducible rfl
            rotate_left
            · simp only [Act.put, List.setIfInBounds_toArray, List.set_cons_zero, List.set_cons_succ, i64_w, i32_w]
              rfl
            refine done_ (by kernel_rfl) ?_
            go_upto_if 55 with (fail)
            (try simp only [Act.put, List.setIfInBounds_toArray, List.set_cons_zero, List.set_cons_succ])
            have H := HC88.out
            clear HC88
            by_cases c93 : t344 = true
            · subst c93
              (try simp only [Bool.not_true, Bool.not_false])
              have H1 : (some true) = some r := by rw [if_pos rfl] at H; exact H
              clear H
              have H := H1
              clear H1
              obtain rfl := Option.some.inj H
              go_wp2
              go_ret
              exact ⟨by first | rfl | (simp [errW_none, errW_some] <;> rfl) | (simp [*, errW_none, errW_some] <;> rfl), by repeat (first | (with_reducible first | exact HB.out | apply below_alloc | apply pw_below_drewN | apply below_drew1 | refine below_set ?_ GE270.out | refine below_set ?_ GE271.out | refine below_set ?_ GE272.out | refine below_set ?_ GE313.out | refine below_set ?_ GE319.out) | exact HB.out)⟩
            · replace c93 := Bool.eq_false_iff.mpr c93
              subst c93
              (try simp only [Bool.not_true, Bool.not_false])
              have H1 : (some false) = some r := by rw [if_neg (show ¬ (false = true) by decide)] at H; exact H
              clear H
              have H := H1
              clear H1
              obtain rfl := Option.some.inj H
              go_wp2
              go_ret
              exact ⟨by first | rfl | (simp [errW_none, errW_some] <;> rfl) | (simp [*, errW_none, errW_some] <;> rfl), by repeat (first | (with_reducible first | exact HB.out | apply below_alloc | apply pw_below_drewN | apply below_drew1 | refine below_set ?_ GE270.out | refine below_set ?_ GE271.out | refine below_set ?_ GE272.out | refine below_set ?_ GE313.out | refine below_set ?_ GE319.out) | exact HB.out)⟩
          · replace c85 := Bool.eq_false_iff.mpr c85
            subst c85
            (try simp only [Bool.not_true, Bool.not_false])
            have H1 : (some false) = some r := by rw [if_neg (show ¬ (false = true) by decide)] at H; exact H
            clear H
            have H := H1
            clear H1
            obtain rfl := Option.some.inj H
            go_wp2
            go_ret
            exact ⟨by first | rfl | (simp [errW_none, errW_some] <;> rfl) | (simp [*, errW_none, errW_some] <;> rfl), by repeat (first | (with_reducible first | exact HB.out | apply below_alloc | apply pw_below_drewN | apply below_drew1 | refine below_set ?_ GE270.out | refine below_set ?_ GE271.out | refine below_set ?_ GE272.out | refine below_set ?_ GE313.out | refine below_set ?_ GE319.out) | exact HB.out)⟩

end Go.Proofs.Ytdepiibcopbjlaa.PFnExactFitsState
