/- The row of FnExactIsSafe: an argument that reads as data is laid open as a tree, the law run over trees gives 'true', so the machine's call gives it, and the argument reads as before. Conditions: those of the given statement alone. -/
import Derived.Test.YtlncmdbipjlfhaaGreatRows
import Derived.Test.YtlncmdbipjlfhaaGreatEvA
import Derived.Test.YtlncmdbipjlfhaaGreatEvB
import Derived.Test.YtlncmdbipjlfhaaGreatEvC
import Derived.Test.YtlncmdbipjlfhaaGreatEvD
import Derived.Test.YtlncmdbipjlfhaaGreatEvE
import Derived.Test.YtlncmdbipjlfhaaGreatEvF
import Derived.Test.YtlncmdbipjlfhaaGreatEvG
import Derived.Test.YtlncmdbipjlfhaaGreatEvH
import Derived.Test.YtlncmdbipjlfhaaGreatEvI
import Derived.Test.YtlncmdbipjlfhaaGreatEvJ
import Derived.Test.YtlncmdbipjlfhaaGreatEvK
import Derived.Test.YtlncmdbipjlfhaaGreatEvL
import Derived.Test.YtlncmdbipjlfhaaGreatEvM
import Derived.Test.YtlncmdbipjlfhaaGreatEvN
import Derived.Test.YtlncmdbipjlfhaaGreatEvO
import Derived.Test.YtlncmdbipjlfhaaGreatEvP
import Derived.Test.YtlncmdbipjlfhaaGreatEvQ
import Derived.Test.YtlncmdbipjlfhaaGreatEvR
import Derived.Test.YtlncmdbipjlfhaaGreatEvS
import Derived.Test.YtlncmdbipjlfhaaGreatEvT
import Derived.Test.YtlncmdbipjlfhaaGreatEvU
import Derived.Test.YtlncmdbipjlfhaaGreatEvV
import Derived.Test.YtlncmdbipjlfhaaGreatEvW
import Derived.Test.YtlncmdbipjlfhaaGreatEvX
import Derived.Test.YtlncmdbipjlfhaaGreatShelf
import Derived.WalkKit
import Derived.ProofKit
import Derived.OpenShut
import Derived.ShutString
import Derived.ChangeOld
import Derived.Below
import Derived.SizedLaws
import Derived.Carry
namespace Go.Proofs.YtlncmdbipjlfhaaGreat.fnExactIsSafe
open Go.ChangeShapes Go.WideShapes Go.ChangeAt Go.RowKit Go.Proofs.YtlncmdbipjlfhaaGreat
set_option linter.unusedVariables false
set_option linter.unusedSimpArgs false
theorem own : ownKnob Tryz.prog.godebug = none := by kernel_rfl
theorem laidOut : laidOutB Tryz.prog = true := by kernel_rfl
theorem orcOk : Go.Ev.OrcOk Go.Ev.EE := Go.Ev.orc_idx (N := 119) (fun _ _ => rfl) ⟨_, _, Tryz.func119, by decide +kernel, rfl⟩ fun s c w => Tryz.strings_IndexByte s c w
theorem mixed : Go.Ev.EE.P.follows .mixedOrders = true := by kernel_rfl
set_option maxRecDepth 100000 in
theorem lifted (os : Os) (started : os.Started) (H : Type) (enc : TypeId × Value → H) :
    ReturnsInHanded {} Tryz.checked os 4 .any (Rows.fnExactIsSafeSpec.pre6 enc Tryz.prog Tryz.f4 Rows.fnExactIsSafeRow.domain false) (Rows.fnExactIsSafeSpec.post enc Tryz.prog Tryz.f4 false true false false) := by
  refine returnsInHanded_of_change_sized (C := Tryz.checked) own started (by kernel_rfl) Tryz.func4
    (ChangeSpec.witness6 (enc := enc) (C := Tryz.checked) false ⟨#[], #[.agg #[.slice none 0 0]], []⟩ 8 (by kernel_rfl) (by kernel_rfl) (by kernel_rfl) (by kernel_rfl)) ?_
  intro W base args ds gs before hval0 hW hcnd hsz0 _
  have hval : ∀ (j : Nat) t v, Tryz.f4.params[j]? = some t → args[j]? = some v → Value.okWide Tryz.prog W .any base t v := hval0
  have hW' := hW
  obtain ⟨p, q, hA0, hV, rfl, hfz, hnd⟩ := hW
  have hA : DataW.TrodAll enc Tryz.prog W 0 (fun _ => true) true Tryz.f4.params.toList args.toList ds p := hA0
  rw [Tryz.params4] at hA hval
  obtain ⟨v0, vs0, d0, ds0, p0, q0, hargs, rfl, rfl, h0, r0⟩ := trodAll_cons hA
  obtain ⟨rfl, rfl, rfl⟩ := trodAll_nil r0
  obtain rfl : args = #[v0] := by cases args; simp_all
  obtain ⟨rfl, rfl⟩ := trodVars_none hV
  have lt0 : ∀ x ∈ p0, x.block < W.heap.size := by obtain ⟨m, hm⟩ := h0; exact DataW.trod_lt m _ _ _ hm
  have k0_ := h0
  obtain ⟨fuel0, t0⟩ := h0
  obtain ⟨ca0, rfl⟩ : ∃ ca, v0 = .agg ca := by
    have z := (hval 0 24 v0 rfl rfl)
    unfold Value.okWide at z
    rw [Tryz.underlying24] at z
    obtain ⟨ca, e_, _⟩ := z
    exact ⟨ca, e_⟩
  obtain ⟨us0, T0, _, R0⟩ := Go.Ev.trod_tr Go.Ev.Op.closed fuel0 _ _ _ (Go.Ev.memN_mem (by kernel_rfl)) t0
  obtain ⟨x0, e0, o0⟩ := Go.Ev.Op.ty24 _ _ T0
  have C0 := Go.Ev.RowTr.agg (cs := ca0) R0
  rw [e0] at C0
  have h := Go.Ev.law4 x0 o0
  refine (Go.Ev.law_calls mixed orcOk h rfl (fun i hi => ?_)).mono ?_
  · match i, hi with
    | 0, _ => exact C0
    | j + 1, hj => exact absurd hj (by simp)
  rintro e W' ⟨he, bel⟩
  subst he
  exact ⟨_, rfl, _, _, _, [], _, [], hW', trodAll_mk1 (shut_bool Tryz.underlying4 _), (trodAll_cons_mk (Below.trod laidOut (by kernel_rfl) (of_decide_eq_true (by kernel_rfl)) k0_ bel lt0) trodAll_mk0), rfl, bel.frame _, fun h => by cases h⟩
theorem over : Rows.fnExactIsSafeRow.holds Tryz.pinned (OpenSpec.ofChange Rows.fnExactIsSafeSpec) :=
  OpenClaim.holds_of_wide 4 Tryz.f4 rfl rfl rfl rfl rfl rfl rfl ⟨rfl, rfl, rfl, rfl, rfl⟩ rfl rfl rfl rfl rfl (by kernel_rfl) Tryz.func4 (by kernel_rfl)
    (of_decide_eq_true (by kernel_rfl)) (by unfold Func.isWrapper; first | (rw [if_pos (by decide +kernel)]; kernel_rfl) | (rw [if_neg (by decide +kernel)]; exact ⟨rfl, rfl⟩))
    (fun os started H enc _ => lifted os started H enc)
theorem proved : Rows.FnExactIsSafeSaid := over
#print axioms proved
end Go.Proofs.YtlncmdbipjlfhaaGreat.fnExactIsSafe
namespace Go.Proofs.YtlncmdbipjlfhaaGreat
/-- The row, under a short name, for the claim. -/
theorem fnExactIsSafe_holds : Rows.FnExactIsSafeSaid := fnExactIsSafe.proved
end Go.Proofs.YtlncmdbipjlfhaaGreat
