/- The row of FnExactFormatProgram: an argument that reads as data is laid open as a tree, the law run over trees gives 'true', so the machine's call gives it, and the argument reads as before. Conditions: those of the given statement alone. -/
import Derived.Test.YtdpcnjlmodogbaaGreatRows
import Derived.Test.YtdpcnjlmodogbaaGreatEvA
import Derived.Test.YtdpcnjlmodogbaaGreatEvB
import Derived.Test.YtdpcnjlmodogbaaGreatEvC
import Derived.Test.YtdpcnjlmodogbaaGreatEvD
import Derived.Test.YtdpcnjlmodogbaaGreatEvE
import Derived.Test.YtdpcnjlmodogbaaGreatEvF
import Derived.Test.YtdpcnjlmodogbaaGreatEvG
import Derived.Test.YtdpcnjlmodogbaaGreatEvH
import Derived.Test.YtdpcnjlmodogbaaGreatEvI
import Derived.Test.YtdpcnjlmodogbaaGreatEvJ
import Derived.Test.YtdpcnjlmodogbaaGreatEvK
import Derived.Test.YtdpcnjlmodogbaaGreatEvL
import Derived.Test.YtdpcnjlmodogbaaGreatEvM
import Derived.Test.YtdpcnjlmodogbaaGreatEvN
import Derived.Test.YtdpcnjlmodogbaaGreatEvO
import Derived.Test.YtdpcnjlmodogbaaGreatEvP
import Derived.Test.YtdpcnjlmodogbaaGreatEvQ
import Derived.Test.YtdpcnjlmodogbaaGreatEvR
import Derived.Test.YtdpcnjlmodogbaaGreatEvS
import Derived.Test.YtdpcnjlmodogbaaGreatEvT
import Derived.Test.YtdpcnjlmodogbaaGreatShelf
import Derived.WalkKit
import Derived.ProofKit
import Derived.OpenShut
import Derived.ShutString
import Derived.ChangeOld
import Derived.Below
import Derived.SizedLaws
import Derived.Carry
namespace Go.Proofs.YtdpcnjlmodogbaaGreat.fnExactFormatProgram
open Go.ChangeShapes Go.WideShapes Go.ChangeAt Go.RowKit Go.Proofs.YtdpcnjlmodogbaaGreat
set_option linter.unusedVariables false
set_option linter.unusedSimpArgs false
theorem own : ownKnob Tryz.prog.godebug = none := by kernel_rfl
theorem laidOut : laidOutB Tryz.prog = true := by kernel_rfl
theorem orcOk : Go.Ev.OrcOk Go.Ev.EE := Go.Ev.orc_idx (N := 83) (fun _ _ => rfl) ⟨_, _, Tryz.func83, by decide +kernel, rfl⟩ fun s c w => Tryz.strings_IndexByte s c w
theorem mixed : Go.Ev.EE.P.follows .mixedOrders = true := by kernel_rfl
set_option maxRecDepth 100000 in
theorem lifted (os : Os) (started : os.Started) (H : Type) (enc : TypeId × Value → H) :
    ReturnsInHanded {} Tryz.checked os 3 .any (Rows.fnExactFormatProgramSpec.pre6 enc Tryz.prog Tryz.f3 Rows.fnExactFormatProgramRow.domain false) (Rows.fnExactFormatProgramSpec.post enc Tryz.prog Tryz.f3 false true false false) := by
  refine returnsInHanded_of_change_sized (C := Tryz.checked) own started (by kernel_rfl) Tryz.func3
    (ChangeSpec.witness6 (enc := enc) (C := Tryz.checked) false ⟨#[], #[.agg #[.slice none 0 0]], []⟩ 8 (by kernel_rfl) (by kernel_rfl) (by kernel_rfl) (by kernel_rfl)) ?_
  intro W base args ds gs before hval0 hW hcnd hsz0 _
  have hval : ∀ (j : Nat) t v, Tryz.f3.params[j]? = some t → args[j]? = some v → Value.okWide Tryz.prog W .any base t v := hval0
  have hW' := hW
  obtain ⟨p, q, hA0, hV, rfl, hfz, hnd⟩ := hW
  have hA : DataW.TrodAll enc Tryz.prog W 0 (fun _ => true) true Tryz.f3.params.toList args.toList ds p := hA0
  rw [Tryz.params3] at hA hval
  obtain ⟨v0, vs0, d0, ds0, p0, q0, hargs, rfl, rfl, h0, r0⟩ := trodAll_cons hA
  obtain ⟨rfl, rfl, rfl⟩ := trodAll_nil r0
  obtain rfl : args = #[v0] := by cases args; simp_all
  obtain ⟨rfl, rfl⟩ := trodVars_none hV
  have lt0 : ∀ x ∈ p0, x.block < W.heap.size := by obtain ⟨m, hm⟩ := h0; exact DataW.trod_lt m _ _ _ hm
  have k0_ := h0
  obtain ⟨fuel0, t0⟩ := h0
  obtain ⟨ca0, rfl⟩ : ∃ ca, v0 = .agg ca := by
    have z := (hval 0 24 v0 rfl rfl)
    unfold Value.okWide at z
    rw [Tryz.underlying24] at z
    obtain ⟨ca, e_, _⟩ := z
    exact ⟨ca, e_⟩
  obtain ⟨us0, T0, _, R0⟩ := Go.Ev.trod_tr Go.Ev.Op.closed fuel0 _ _ _ (Go.Ev.memN_mem (by kernel_rfl)) t0
  obtain ⟨x0, e0, o0⟩ := Go.Ev.Op.ty24 _ _ T0
  have C0 := Go.Ev.RowTr.agg (cs := ca0) R0
  rw [e0] at C0
  have h := Go.Ev.law3 x0 o0
  refine (Go.Ev.law_calls mixed orcOk h rfl (fun i hi => ?_)).mono ?_
  · match i, hi with
    | 0, _ => exact C0
    | j + 1, hj => exact absurd hj (by simp)
  rintro e W' ⟨he, bel⟩
  subst he
  exact ⟨_, rfl, _, _, _, [], _, [], hW', trodAll_mk1 (shut_bool Tryz.underlying4 _), (trodAll_cons_mk (Below.trod laidOut (by kernel_rfl) (of_decide_eq_true (by kernel_rfl)) k0_ bel lt0) trodAll_mk0), rfl, bel.frame _, fun h => by cases h⟩
theorem over : Rows.fnExactFormatProgramRow.holds Tryz.pinned (OpenSpec.ofChange Rows.fnExactFormatProgramSpec) :=
  OpenClaim.holds_of_wide 3 Tryz.f3 rfl rfl rfl rfl rfl rfl rfl ⟨rfl, rfl, rfl, rfl, rfl⟩ rfl rfl rfl rfl rfl (by kernel_rfl) Tryz.func3 (by kernel_rfl)
    (of_decide_eq_true (by kernel_rfl)) (by unfold Func.isWrapper; first | (rw [if_pos (by decide +kernel)]; kernel_rfl) | (rw [if_neg (by decide +kernel)]; exact ⟨rfl, rfl⟩))
    (fun os started H enc _ => lifted os started H enc)
theorem proved : Rows.FnExactFormatProgramSaid := over
#print axioms proved
end Go.Proofs.YtdpcnjlmodogbaaGreat.fnExactFormatProgram
namespace Go.Proofs.YtdpcnjlmodogbaaGreat
/-- The row, under a short name, for the claim. -/
theorem fnExactFormatProgram_holds : Rows.FnExactFormatProgramSaid := fnExactFormatProgram.proved
end Go.Proofs.YtdpcnjlmodogbaaGreat
