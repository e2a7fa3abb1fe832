/- The row of FnMorphisms: an argument that reads as data is laid open as a tree, the law run over trees gives 'true', so the machine's call gives it, and the argument reads as before. Conditions: those of the given statement alone. -/
import Derived.Test.YtcmnfoombinccaaRows
import Derived.Test.YtcmnfoombinccaaEvA
import Derived.Test.YtcmnfoombinccaaEvB
import Derived.Test.YtcmnfoombinccaaEvC
import Derived.Test.YtcmnfoombinccaaEvD
import Derived.Test.YtcmnfoombinccaaEvE
import Derived.Test.YtcmnfoombinccaaEvF
import Derived.Test.YtcmnfoombinccaaEvG
import Derived.Test.YtcmnfoombinccaaEvH
import Derived.Test.YtcmnfoombinccaaEvI
import Derived.Test.YtcmnfoombinccaaEvJ
import Derived.Test.YtcmnfoombinccaaEvK
import Derived.Test.YtcmnfoombinccaaEvL
import Derived.Test.YtcmnfoombinccaaEvM
import Derived.Test.YtcmnfoombinccaaEvN
import Derived.Test.YtcmnfoombinccaaEvO
import Derived.Test.YtcmnfoombinccaaEvP
import Derived.Test.YtcmnfoombinccaaEvQ
import Derived.Test.YtcmnfoombinccaaEvR
import Derived.Test.YtcmnfoombinccaaEvS
import Derived.Test.YtcmnfoombinccaaEvT
import Derived.Test.YtcmnfoombinccaaEvU
import Derived.Test.YtcmnfoombinccaaEvV
import Derived.Test.YtcmnfoombinccaaEvW
import Derived.Test.YtcmnfoombinccaaEvX
import Derived.Test.YtcmnfoombinccaaShelf
import Derived.WalkKit
import Derived.ProofKit
import Derived.OpenShut
import Derived.ShutString
import Derived.ChangeOld
import Derived.Below
import Derived.SizedLaws
import Derived.Carry
namespace Go.Proofs.Ytcmnfoombinccaa.fnMorphisms
open Go.ChangeShapes Go.WideShapes Go.ChangeAt Go.RowKit Go.Proofs.Ytcmnfoombinccaa
set_option linter.unusedVariables false
set_option linter.unusedSimpArgs false
theorem own : ownKnob Try.prog.godebug = none := by kernel_rfl
theorem laidOut : laidOutB Try.prog = true := by kernel_rfl
theorem orcOk : Go.Ev.OrcOk Go.Ev.EE := Go.Ev.orc_idx (N := 58) (fun _ _ => rfl) ⟨_, _, Try.func58, by decide +kernel, rfl⟩ fun s c w => Try.strings_IndexByte s c w
theorem mixed : Go.Ev.EE.P.follows .mixedOrders = true := by kernel_rfl
set_option maxRecDepth 100000 in
theorem lifted (os : Os) (started : os.Started) (H : Type) (enc : TypeId × Value → H) :
    ReturnsInHanded {} Try.checked os 3 .any (Rows.fnMorphismsSpec.pre6 enc Try.prog Try.f3 Rows.fnMorphismsRow.domain false) (Rows.fnMorphismsSpec.post enc Try.prog Try.f3 false true false false) := by
  refine returnsInHanded_of_change_sized (C := Try.checked) own started (by kernel_rfl) Try.func3
    (ChangeSpec.witness6 (enc := enc) (C := Try.checked) false ⟨#[], #[.slice none 0 0], []⟩ 8 (by kernel_rfl) (by kernel_rfl) (by kernel_rfl) (by kernel_rfl)) ?_
  intro W base args ds gs before hval0 hW hcnd hsz0 _
  have hval : ∀ (j : Nat) t v, Try.f3.params[j]? = some t → args[j]? = some v → Value.okWide Try.prog W .any base t v := hval0
  have hW' := hW
  obtain ⟨p, q, hA0, hV, rfl, hfz, hnd⟩ := hW
  have hA : DataW.TrodAll enc Try.prog W 0 (fun _ => true) true Try.f3.params.toList args.toList ds p := hA0
  rw [Try.params3] at hA hval
  obtain ⟨v0, vs0, d0, ds0, p0, q0, hargs, rfl, rfl, h0, r0⟩ := trodAll_cons hA
  obtain ⟨rfl, rfl, rfl⟩ := trodAll_nil r0
  obtain rfl : args = #[v0] := by cases args; simp_all
  obtain ⟨rfl, rfl⟩ := trodVars_none hV
  have lt0 : ∀ x ∈ p0, x.block < W.heap.size := by obtain ⟨m, hm⟩ := h0; exact DataW.trod_lt m _ _ _ hm
  have k0_ := h0
  obtain ⟨fuel0, t0⟩ := h0
  obtain ⟨a0, len0, cap0, rfl⟩ := okWide_slice Try.underlying22 (hval 0 22 v0 rfl rfl)
  obtain ⟨us0, T0, _, R0⟩ := Go.Ev.trod_tr Go.Ev.Op.closed fuel0 _ _ _ (Go.Ev.memN_mem (by kernel_rfl)) t0
  obtain ⟨x0, e0, l0, o0'⟩ := Go.Ev.Op.ty22 _ _ T0
  rw [e0] at R0
  have C0 := Go.Ev.RowTr.one R0
  have o0 : _ ∧ _ := ⟨l0, o0'⟩
  have h := Go.Ev.law3 x0 o0
  refine (Go.Ev.law_calls mixed orcOk h rfl (fun i hi => ?_)).mono ?_
  · match i, hi with
    | 0, _ => exact C0
    | j + 1, hj => exact absurd hj (by simp)
  rintro e W' ⟨he, bel⟩
  subst he
  exact ⟨_, rfl, _, _, _, [], _, [], hW', trodAll_mk1 (shut_bool Try.underlying4 _), (trodAll_cons_mk (Below.trod laidOut (by kernel_rfl) (of_decide_eq_true (by kernel_rfl)) k0_ bel lt0) trodAll_mk0), rfl, bel.frame _, fun h => by cases h⟩
theorem over : Rows.fnMorphismsRow.holds Try.pinned (OpenSpec.ofChange Rows.fnMorphismsSpec) :=
  OpenClaim.holds_of_wide 3 Try.f3 rfl rfl rfl rfl rfl rfl rfl ⟨rfl, rfl, rfl, rfl, rfl⟩ rfl rfl rfl rfl rfl (by kernel_rfl) Try.func3 (by kernel_rfl)
    (of_decide_eq_true (by kernel_rfl)) (by unfold Func.isWrapper; first | (rw [if_pos (by decide +kernel)]; kernel_rfl) | (rw [if_neg (by decide +kernel)]; exact ⟨rfl, rfl⟩))
    (fun os started H enc _ => lifted os started H enc)
theorem proved : Rows.FnMorphismsSaid := over
#print axioms proved
end Go.Proofs.Ytcmnfoombinccaa.fnMorphisms
namespace Go.Proofs.Ytcmnfoombinccaa
/-- The row, under a short name, for the claim. -/
theorem fnMorphisms_holds : Rows.FnMorphismsSaid := fnMorphisms.proved
end Go.Proofs.Ytcmnfoombinccaa
