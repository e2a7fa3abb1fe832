/-
  NARROWER THAN 'FOR EVERY INPUT', by the rows' own cells (each row's printed sentence says how): FnExactKeepConstraints: loops.
  DERIVED. THE GIVEN ROWS OF THIS SEAT. 5 by the template 'for every input the law returns true; each argument reads behind the call as it read before'; 0 by the template 'total and deterministic' (their statements: YtbdciemhapmhcaaTotals.lean).
  GIVEN WITH THE SEED: the statements are not yours to turn. If you find one false, say at which input.
  Laid BY PROGRAM, IN A SANDBOX (cutbox-rows.mjs): the forced cells as the released guide's own fill.sh prints them over the translation 24a2ffa0393997e1… (all of the seat's roots in one cut). By AI agents, Wed Nov 11 2026. No macro, syntax, notation, axiom, sorry.
-/
import Derived.Test.YtbdciemhapmhcaaChecked
import GoSem.Claim
import GoSem.ClaimJoined
import GoSem.ClaimMapViews
import Derived.JoinedTies
import Derived.KernelRfl
namespace Go.Proofs.Ytbdciemhapmhcaa
/- THE CELL 'sum', in the pinned program and in every row, IS THE sha256 OF THE DUMP (.gsa) THAT YtbdciemhapmhcaaProg.lean LOADS. Nothing in Lean hashes anything: it is a label: what it is worth is what the hold of that sum in a sandbox is worth. -/
noncomputable def Try.pinned : Pinned := { name := "ytbdciemhapmhcaa", sum := "24a2ffa0393997e10cf02833fcb6f4b95274f9039ee4576f89786bf741b64565", checked := Try.checked }
namespace Rows
def none {H : Type} : Left H := { results := [], args := [] }

/-- 'laws.FnExactRightQuotient': WHATEVER THE INPUT: true; the input reads as it did. -/
def fnExactRightQuotientSpec : ChangeSpec := { name := "fnExactRightQuotient", fn := fun _ => fun
  | [d1, d2] => { results := [.lit (.bool true)], args := [d1, d2] }
  | _ => none }
def fnExactRightQuotientRow : OpenClaim := { program := "ytbdciemhapmhcaa", sum := "24a2ffa0393997e10cf02833fcb6f4b95274f9039ee4576f89786bf741b64565", func := "loop.example/g00582/laws.FnExactRightQuotient", spec := "fnExactRightQuotient", inPlace := ["internal/bytealg.IndexByteString"], unfollowed := true, recurses := true, plainKeys := false, apart := false }
def FnExactRightQuotientSaid : Prop := fnExactRightQuotientRow.holds Try.pinned (OpenSpec.ofChange fnExactRightQuotientSpec)

/-- ITS FALSE NEIGHBOUR: 'it returns false'. Refute it at one input. -/
def fnExactRightQuotientWrong : ChangeSpec := { name := "fnExactRightQuotient", fn := fun _ => fun
  | [d1, d2] => { results := [.lit (.bool false)], args := [d1, d2] }
  | _ => none }
def FnExactRightQuotientWrongFalsely : Prop := fnExactRightQuotientRow.holds Try.pinned (OpenSpec.ofChange fnExactRightQuotientWrong)

/-- 'laws.FnExactLeftQuotient': WHATEVER THE INPUT: true; the input reads as it did. -/
def fnExactLeftQuotientSpec : ChangeSpec := { name := "fnExactLeftQuotient", fn := fun _ => fun
  | [d1, d2] => { results := [.lit (.bool true)], args := [d1, d2] }
  | _ => none }
def fnExactLeftQuotientRow : OpenClaim := { program := "ytbdciemhapmhcaa", sum := "24a2ffa0393997e10cf02833fcb6f4b95274f9039ee4576f89786bf741b64565", func := "loop.example/g00582/laws.FnExactLeftQuotient", spec := "fnExactLeftQuotient", inPlace := ["internal/bytealg.IndexByteString"], unfollowed := true, recurses := true, plainKeys := false, apart := false }
def FnExactLeftQuotientSaid : Prop := fnExactLeftQuotientRow.holds Try.pinned (OpenSpec.ofChange fnExactLeftQuotientSpec)

/-- ITS FALSE NEIGHBOUR: 'it returns false'. Refute it at one input. -/
def fnExactLeftQuotientWrong : ChangeSpec := { name := "fnExactLeftQuotient", fn := fun _ => fun
  | [d1, d2] => { results := [.lit (.bool false)], args := [d1, d2] }
  | _ => none }
def FnExactLeftQuotientWrongFalsely : Prop := fnExactLeftQuotientRow.holds Try.pinned (OpenSpec.ofChange fnExactLeftQuotientWrong)

/-- 'laws.FnExactPreimageDfa': WHATEVER THE INPUT: true; the input reads as it did. -/
def fnExactPreimageDfaSpec : ChangeSpec := { name := "fnExactPreimageDfa", fn := fun _ => fun
  | [d1, d2] => { results := [.lit (.bool true)], args := [d1, d2] }
  | _ => none }
def fnExactPreimageDfaRow : OpenClaim := { program := "ytbdciemhapmhcaa", sum := "24a2ffa0393997e10cf02833fcb6f4b95274f9039ee4576f89786bf741b64565", func := "loop.example/g00582/laws.FnExactPreimageDfa", spec := "fnExactPreimageDfa", inPlace := ["internal/bytealg.IndexByteString"], unfollowed := true, recurses := true, plainKeys := false, apart := false }
def FnExactPreimageDfaSaid : Prop := fnExactPreimageDfaRow.holds Try.pinned (OpenSpec.ofChange fnExactPreimageDfaSpec)

/-- ITS FALSE NEIGHBOUR: 'it returns false'. Refute it at one input. -/
def fnExactPreimageDfaWrong : ChangeSpec := { name := "fnExactPreimageDfa", fn := fun _ => fun
  | [d1, d2] => { results := [.lit (.bool false)], args := [d1, d2] }
  | _ => none }
def FnExactPreimageDfaWrongFalsely : Prop := fnExactPreimageDfaRow.holds Try.pinned (OpenSpec.ofChange fnExactPreimageDfaWrong)

/-- 'laws.FnExactStepsOf': WHATEVER THE INPUT: true; the input reads as it did. -/
def fnExactStepsOfSpec : ChangeSpec := { name := "fnExactStepsOf", fn := fun _ => fun
  | [d1, d2] => { results := [.lit (.bool true)], args := [d1, d2] }
  | _ => none }
def fnExactStepsOfRow : OpenClaim := { program := "ytbdciemhapmhcaa", sum := "24a2ffa0393997e10cf02833fcb6f4b95274f9039ee4576f89786bf741b64565", func := "loop.example/g00582/laws.FnExactStepsOf", spec := "fnExactStepsOf", inPlace := ["internal/bytealg.IndexByteString"], unfollowed := true, recurses := true, plainKeys := false, apart := false }
def FnExactStepsOfSaid : Prop := fnExactStepsOfRow.holds Try.pinned (OpenSpec.ofChange fnExactStepsOfSpec)

/-- ITS FALSE NEIGHBOUR: 'it returns false'. Refute it at one input. -/
def fnExactStepsOfWrong : ChangeSpec := { name := "fnExactStepsOf", fn := fun _ => fun
  | [d1, d2] => { results := [.lit (.bool false)], args := [d1, d2] }
  | _ => none }
def FnExactStepsOfWrongFalsely : Prop := fnExactStepsOfRow.holds Try.pinned (OpenSpec.ofChange fnExactStepsOfWrong)

/-- 'laws.FnExactKeepConstraints': WHATEVER THE INPUT: true; the input reads as it did. -/
def fnExactKeepConstraintsSpec : ChangeSpec := { name := "fnExactKeepConstraints", fn := fun _ => fun
  | [d1, d2] => { results := [.lit (.bool true)], args := [d1, d2] }
  | _ => none }
def fnExactKeepConstraintsRow : OpenClaim := { program := "ytbdciemhapmhcaa", sum := "24a2ffa0393997e10cf02833fcb6f4b95274f9039ee4576f89786bf741b64565", func := "loop.example/g00582/laws.FnExactKeepConstraints", spec := "fnExactKeepConstraints", inPlace := ["internal/bytealg.IndexByteString"], unfollowed := true, recurses := true, loops := true, plainKeys := false, apart := false }
def FnExactKeepConstraintsSaid : Prop := fnExactKeepConstraintsRow.holds Try.pinned (OpenSpec.ofChange fnExactKeepConstraintsSpec)

/-- ITS FALSE NEIGHBOUR: 'it returns false'. Refute it at one input. -/
def fnExactKeepConstraintsWrong : ChangeSpec := { name := "fnExactKeepConstraints", fn := fun _ => fun
  | [d1, d2] => { results := [.lit (.bool false)], args := [d1, d2] }
  | _ => none }
def FnExactKeepConstraintsWrongFalsely : Prop := fnExactKeepConstraintsRow.holds Try.pinned (OpenSpec.ofChange fnExactKeepConstraintsWrong)

/- THE SECOND FORM. 'bulk': how many values and letters a reading holds, each counted each time it is reached (what is shared counts as often as it is met; a slice's spare places count too). A statement '..UptoSaid' is the law's where the arguments, and the package variables that the reading takes, are together of bulk at most 1048576: NARROWER than '..Said'. Prove '..Said' where nothing that the law and all that it calls make is longer than what came in: it says more and counts as full. Else prove '..UptoSaid'. A law counts once. -/
mutual
def uptoBulk {H : Type} : DataW H → Nat
  | .lit (.string bytes) => bytes.length + 1
  | .lit _ => 1
  | .nil => 1
  | .ptr d => uptoBulk d + 1
  | .slice elems spare => uptoBulkAll elems + uptoBulkAll spare + 1
  | .agg parts => uptoBulkAll parts + 1
  | .iface _ d => uptoBulk d + 1
  | .map entries => uptoBulkEntries entries + 1
  | .held _ => 1
def uptoBulkAll {H : Type} : List (DataW H) → Nat
  | [] => 0
  | d :: r => uptoBulk d + uptoBulkAll r
def uptoBulkEntries {H : Type} : List (Lit × DataW H) → Nat
  | [] => 0
  | x :: r => uptoBulkEntry x + uptoBulkEntries r
def uptoBulkEntry {H : Type} : Lit × DataW H → Nat
  | (.string bytes, d) => bytes.length + uptoBulk d + 1
  | (_, d) => uptoBulk d + 1
 end
def uptoSmall : (H : Type) → List (DataW H) → Bool := fun _ ds => decide (uptoBulkAll ds ≤ 1048576)
def OpenSpec.upto (s : _root_.Go.ChangeSpec) : _root_.Go.OpenSpec := { _root_.Go.OpenSpec.ofChange s with cond := some uptoSmall }

/-- 'laws.FnExactRightQuotient', WHERE WHAT IT READS IS OF BULK AT MOST 1048576: true; the input reads as it did. -/
def fnExactRightQuotientUptoRow : OpenClaim := { program := "ytbdciemhapmhcaa", sum := "24a2ffa0393997e10cf02833fcb6f4b95274f9039ee4576f89786bf741b64565", func := "loop.example/g00582/laws.FnExactRightQuotient", spec := "fnExactRightQuotient", inPlace := ["internal/bytealg.IndexByteString"], unfollowed := true, recurses := true, plainKeys := false, apart := false, narrowed := true }
def FnExactRightQuotientUptoSaid : Prop := fnExactRightQuotientUptoRow.holds Try.pinned (OpenSpec.upto fnExactRightQuotientSpec)

/-- 'laws.FnExactLeftQuotient', WHERE WHAT IT READS IS OF BULK AT MOST 1048576: true; the input reads as it did. -/
def fnExactLeftQuotientUptoRow : OpenClaim := { program := "ytbdciemhapmhcaa", sum := "24a2ffa0393997e10cf02833fcb6f4b95274f9039ee4576f89786bf741b64565", func := "loop.example/g00582/laws.FnExactLeftQuotient", spec := "fnExactLeftQuotient", inPlace := ["internal/bytealg.IndexByteString"], unfollowed := true, recurses := true, plainKeys := false, apart := false, narrowed := true }
def FnExactLeftQuotientUptoSaid : Prop := fnExactLeftQuotientUptoRow.holds Try.pinned (OpenSpec.upto fnExactLeftQuotientSpec)

/-- 'laws.FnExactPreimageDfa', WHERE WHAT IT READS IS OF BULK AT MOST 1048576: true; the input reads as it did. -/
def fnExactPreimageDfaUptoRow : OpenClaim := { program := "ytbdciemhapmhcaa", sum := "24a2ffa0393997e10cf02833fcb6f4b95274f9039ee4576f89786bf741b64565", func := "loop.example/g00582/laws.FnExactPreimageDfa", spec := "fnExactPreimageDfa", inPlace := ["internal/bytealg.IndexByteString"], unfollowed := true, recurses := true, plainKeys := false, apart := false, narrowed := true }
def FnExactPreimageDfaUptoSaid : Prop := fnExactPreimageDfaUptoRow.holds Try.pinned (OpenSpec.upto fnExactPreimageDfaSpec)

/-- 'laws.FnExactStepsOf', WHERE WHAT IT READS IS OF BULK AT MOST 1048576: true; the input reads as it did. -/
def fnExactStepsOfUptoRow : OpenClaim := { program := "ytbdciemhapmhcaa", sum := "24a2ffa0393997e10cf02833fcb6f4b95274f9039ee4576f89786bf741b64565", func := "loop.example/g00582/laws.FnExactStepsOf", spec := "fnExactStepsOf", inPlace := ["internal/bytealg.IndexByteString"], unfollowed := true, recurses := true, plainKeys := false, apart := false, narrowed := true }
def FnExactStepsOfUptoSaid : Prop := fnExactStepsOfUptoRow.holds Try.pinned (OpenSpec.upto fnExactStepsOfSpec)

/-- 'laws.FnExactKeepConstraints', WHERE WHAT IT READS IS OF BULK AT MOST 1048576: true; the input reads as it did. -/
def fnExactKeepConstraintsUptoRow : OpenClaim := { program := "ytbdciemhapmhcaa", sum := "24a2ffa0393997e10cf02833fcb6f4b95274f9039ee4576f89786bf741b64565", func := "loop.example/g00582/laws.FnExactKeepConstraints", spec := "fnExactKeepConstraints", inPlace := ["internal/bytealg.IndexByteString"], unfollowed := true, recurses := true, loops := true, plainKeys := false, apart := false, narrowed := true }
def FnExactKeepConstraintsUptoSaid : Prop := fnExactKeepConstraintsUptoRow.holds Try.pinned (OpenSpec.upto fnExactKeepConstraintsSpec)

end Rows
end Go.Proofs.Ytbdciemhapmhcaa
