/- The row of FnExactPreimageDfa: an argument that reads as data is laid open as a tree, the law run over trees gives 'true', so the machine's call gives it, and the argument reads as before. Conditions: those of the given statement alone. -/
import Derived.Test.YtbdciemhapmhcaaRows
import Derived.Test.YtbdciemhapmhcaaEvA
import Derived.Test.YtbdciemhapmhcaaEvB
import Derived.Test.YtbdciemhapmhcaaEvC
import Derived.Test.YtbdciemhapmhcaaEvD
import Derived.Test.YtbdciemhapmhcaaEvE
import Derived.Test.YtbdciemhapmhcaaEvF
import Derived.Test.YtbdciemhapmhcaaEvG
import Derived.Test.YtbdciemhapmhcaaEvH
import Derived.Test.YtbdciemhapmhcaaEvI
import Derived.Test.YtbdciemhapmhcaaEvJ
import Derived.Test.YtbdciemhapmhcaaEvK
import Derived.Test.YtbdciemhapmhcaaEvL
import Derived.Test.YtbdciemhapmhcaaEvM
import Derived.Test.YtbdciemhapmhcaaEvN
import Derived.Test.YtbdciemhapmhcaaEvO
import Derived.Test.YtbdciemhapmhcaaEvP
import Derived.Test.YtbdciemhapmhcaaEvQ
import Derived.Test.YtbdciemhapmhcaaEvR
import Derived.Test.YtbdciemhapmhcaaEvS
import Derived.Test.YtbdciemhapmhcaaEvT
import Derived.Test.YtbdciemhapmhcaaEvU
import Derived.Test.YtbdciemhapmhcaaEvV
import Derived.Test.YtbdciemhapmhcaaShelf
import Derived.WalkKit
import Derived.ProofKit
import Derived.OpenShut
import Derived.ShutString
import Derived.ChangeOld
import Derived.Below
import Derived.SizedLaws
import Derived.Carry
namespace Go.Proofs.Ytbdciemhapmhcaa.fnExactPreimageDfa
open Go.ChangeShapes Go.WideShapes Go.ChangeAt Go.RowKit Go.Proofs.Ytbdciemhapmhcaa
set_option linter.unusedVariables false
set_option linter.unusedSimpArgs false
theorem own : ownKnob Try.prog.godebug = none := by kernel_rfl
theorem laidOut : laidOutB Try.prog = true := by kernel_rfl
theorem orcOk : Go.Ev.OrcOk Go.Ev.EE := Go.Ev.orc_idx (N := 83) (fun _ _ => rfl) ⟨_, _, Try.func83, by decide +kernel, rfl⟩ fun s c w => Try.strings_IndexByte s c w
theorem mixed : Go.Ev.EE.P.follows .mixedOrders = true := by kernel_rfl
set_option maxRecDepth 100000 in
theorem lifted (os : Os) (started : os.Started) (H : Type) (enc : TypeId × Value → H) :
    ReturnsInHanded {} Try.checked os 5 .any (Rows.fnExactPreimageDfaSpec.pre6 enc Try.prog Try.f5 Rows.fnExactPreimageDfaRow.domain false) (Rows.fnExactPreimageDfaSpec.post enc Try.prog Try.f5 false true false false) := by
  refine returnsInHanded_of_change_sized (C := Try.checked) own started (by kernel_rfl) Try.func5
    (ChangeSpec.witness6 (enc := enc) (C := Try.checked) false ⟨#[], #[.agg #[.slice none 0 0, .slice none 0 0], .agg #[.string ByteArray.empty, .string ByteArray.empty, .string ByteArray.empty]], []⟩ 8 (by kernel_rfl) (by kernel_rfl) (by kernel_rfl) (by kernel_rfl)) ?_
  intro W base args ds gs before hval0 hW hcnd hsz0 _
  have hval : ∀ (j : Nat) t v, Try.f5.params[j]? = some t → args[j]? = some v → Value.okWide Try.prog W .any base t v := hval0
  have hW' := hW
  obtain ⟨p, q, hA0, hV, rfl, hfz, hnd⟩ := hW
  have hA : DataW.TrodAll enc Try.prog W 0 (fun _ => true) true Try.f5.params.toList args.toList ds p := hA0
  rw [Try.params5] at hA hval
  obtain ⟨v0, vs0, d0, ds0, p0, q0, hargs, rfl, rfl, h0, r0⟩ := trodAll_cons hA
  obtain ⟨v1, vs1, d1, ds1, p1, q1, rfl, rfl, rfl, h1, r1⟩ := trodAll_cons r0
  obtain ⟨rfl, rfl, rfl⟩ := trodAll_nil r1
  obtain rfl : args = #[v0, v1] := by cases args; simp_all
  obtain ⟨rfl, rfl⟩ := trodVars_none hV
  have lt0 : ∀ x ∈ p0, x.block < W.heap.size := by obtain ⟨m, hm⟩ := h0; exact DataW.trod_lt m _ _ _ hm
  have k0_ := h0
  obtain ⟨fuel0, t0⟩ := h0
  obtain ⟨ca0, rfl⟩ : ∃ ca, v0 = .agg ca := by
    have z := (hval 0 25 v0 rfl rfl)
    unfold Value.okWide at z
    rw [Try.underlying25] at z
    obtain ⟨ca, e_, _⟩ := z
    exact ⟨ca, e_⟩
  obtain ⟨us0, T0, _, R0⟩ := Go.Ev.trod_tr Go.Ev.Op.closed fuel0 _ _ _ (Go.Ev.memN_mem (by kernel_rfl)) t0
  obtain ⟨x0, e0, o0⟩ := Go.Ev.Op.ty25 _ _ T0
  have C0 := Go.Ev.RowTr.agg (cs := ca0) R0
  rw [e0] at C0
  have lt1 : ∀ x ∈ p1, x.block < W.heap.size := by obtain ⟨m, hm⟩ := h1; exact DataW.trod_lt m _ _ _ hm
  have k1_ := h1
  obtain ⟨fuel1, t1⟩ := h1
  obtain ⟨ca1, rfl⟩ : ∃ ca, v1 = .agg ca := by
    have z := (hval 1 35 v1 rfl rfl)
    unfold Value.okWide at z
    rw [Try.underlying35] at z
    obtain ⟨ca, e_, _⟩ := z
    exact ⟨ca, e_⟩
  obtain ⟨us1, T1, _, R1⟩ := Go.Ev.trod_tr Go.Ev.Op.closed fuel1 _ _ _ (Go.Ev.memN_mem (by kernel_rfl)) t1
  obtain ⟨x1, e1, o1⟩ := Go.Ev.Op.ty35 _ _ T1
  have C1 := Go.Ev.RowTr.agg (cs := ca1) R1
  rw [e1] at C1
  have h := Go.Ev.law5 x0 x1 o0 o1
  refine (Go.Ev.law_calls mixed orcOk h rfl (fun i hi => ?_)).mono ?_
  · match i, hi with
    | 0, _ => exact C0
    | 1, _ => exact C1
    | j + 2, hj => exact absurd hj (by simp)
  rintro e W' ⟨he, bel⟩
  subst he
  exact ⟨_, rfl, _, _, _, [], _, [], hW', trodAll_mk1 (shut_bool Try.underlying4 _), (trodAll_cons_mk (Below.trod laidOut (by kernel_rfl) (of_decide_eq_true (by kernel_rfl)) k0_ bel lt0) (trodAll_cons_mk (Below.trod laidOut (by kernel_rfl) (of_decide_eq_true (by kernel_rfl)) k1_ bel lt1) trodAll_mk0)), rfl, bel.frame _, fun h => by cases h⟩
theorem over : Rows.fnExactPreimageDfaRow.holds Try.pinned (OpenSpec.ofChange Rows.fnExactPreimageDfaSpec) :=
  OpenClaim.holds_of_wide 5 Try.f5 rfl rfl rfl rfl rfl rfl rfl ⟨rfl, rfl, rfl, rfl, rfl⟩ rfl rfl rfl rfl rfl (by kernel_rfl) Try.func5 (by kernel_rfl)
    (of_decide_eq_true (by kernel_rfl)) (by unfold Func.isWrapper; first | (rw [if_pos (by decide +kernel)]; kernel_rfl) | (rw [if_neg (by decide +kernel)]; exact ⟨rfl, rfl⟩))
    (fun os started H enc _ => lifted os started H enc)
theorem proved : Rows.FnExactPreimageDfaSaid := over
#print axioms proved
end Go.Proofs.Ytbdciemhapmhcaa.fnExactPreimageDfa
namespace Go.Proofs.Ytbdciemhapmhcaa
/-- The row, under a short name, for the claim. -/
theorem fnExactPreimageDfa_holds : Rows.FnExactPreimageDfaSaid := fnExactPreimageDfa.proved
end Go.Proofs.Ytbdciemhapmhcaa
