/-
  NARROWER THAN 'FOR EVERY INPUT', by the rows' own cells (each row's printed sentence says how): FnExactRunProgram: loops · FnExactFormatProgram: loops · FnExactFailingInputs: loops · FnExactIsSafe: loops · FnExactIsComplete: loops.
  DERIVED. THE GIVEN ROWS OF THIS SEAT. 6 by the template 'for every input the law returns true; each argument reads behind the call as it read before'; 0 by the template 'total and deterministic' (their statements: YtcjaokcpijkceaaGreatTotals.lean).
  GIVEN WITH THE SEED: the statements are not yours to turn. If you find one false, say at which input.
  Laid BY PROGRAM, IN A SANDBOX (cutbox-rows.mjs): the forced cells as the released guide's own fill.sh prints them over the translation 93d734345b27f531… (all of the seat's roots in one cut). By AI agents, Wed Nov 11 2026. No macro, syntax, notation, axiom, sorry.
-/
import Derived.Test.YtcjaokcpijkceaaGreatChecked
import GoSem.Claim
import GoSem.ClaimJoined
import GoSem.ClaimMapViews
import Derived.JoinedTies
import Derived.KernelRfl
namespace Go.Proofs.YtcjaokcpijkceaaGreat
/- THE CELL 'sum', in the pinned program and in every row, IS THE sha256 OF THE DUMP (.gsa) THAT YtcjaokcpijkceaaGreatProg.lean LOADS. Nothing in Lean hashes anything: it is a label: what it is worth is what the hold of that sum in a sandbox is worth. -/
noncomputable def Tryz.pinned : Pinned := { name := "ytcjaokcpijkceaagreat", sum := "93d734345b27f5313a1c2b1b383517c85890df0dd0972b8d32436c6a6dddad20", checked := Tryz.checked }
namespace Rows
def none {H : Type} : Left H := { results := [], args := [] }

/-- 'laws.FnExactRunProgram': WHATEVER THE INPUT: true; the input reads as it did. -/
def fnExactRunProgramSpec : ChangeSpec := { name := "fnExactRunProgram", fn := fun _ => fun
  | [d1, d2] => { results := [.lit (.bool true)], args := [d1, d2] }
  | _ => none }
def fnExactRunProgramRow : OpenClaim := { program := "ytcjaokcpijkceaagreat", sum := "93d734345b27f5313a1c2b1b383517c85890df0dd0972b8d32436c6a6dddad20", func := "loop.example/g00582/laws.FnExactRunProgram", spec := "fnExactRunProgram", inPlace := ["internal/bytealg.IndexByteString"], unfollowed := true, recurses := true, loops := true, plainKeys := false, apart := false }
def FnExactRunProgramSaid : Prop := fnExactRunProgramRow.holds Tryz.pinned (OpenSpec.ofChange fnExactRunProgramSpec)

/-- ITS FALSE NEIGHBOUR: 'it returns false'. Refute it at one input. -/
def fnExactRunProgramWrong : ChangeSpec := { name := "fnExactRunProgram", fn := fun _ => fun
  | [d1, d2] => { results := [.lit (.bool false)], args := [d1, d2] }
  | _ => none }
def FnExactRunProgramWrongFalsely : Prop := fnExactRunProgramRow.holds Tryz.pinned (OpenSpec.ofChange fnExactRunProgramWrong)

/-- 'laws.FnExactFormatProgram': WHATEVER THE INPUT: true; the input reads as it did. -/
def fnExactFormatProgramSpec : ChangeSpec := { name := "fnExactFormatProgram", fn := fun _ => fun
  | [d] => { results := [.lit (.bool true)], args := [d] }
  | _ => none }
def fnExactFormatProgramRow : OpenClaim := { program := "ytcjaokcpijkceaagreat", sum := "93d734345b27f5313a1c2b1b383517c85890df0dd0972b8d32436c6a6dddad20", func := "loop.example/g00582/laws.FnExactFormatProgram", spec := "fnExactFormatProgram", inPlace := ["internal/bytealg.IndexByteString"], unfollowed := true, recurses := true, loops := true, plainKeys := false, apart := false }
def FnExactFormatProgramSaid : Prop := fnExactFormatProgramRow.holds Tryz.pinned (OpenSpec.ofChange fnExactFormatProgramSpec)

/-- ITS FALSE NEIGHBOUR: 'it returns false'. Refute it at one input. -/
def fnExactFormatProgramWrong : ChangeSpec := { name := "fnExactFormatProgram", fn := fun _ => fun
  | [d] => { results := [.lit (.bool false)], args := [d] }
  | _ => none }
def FnExactFormatProgramWrongFalsely : Prop := fnExactFormatProgramRow.holds Tryz.pinned (OpenSpec.ofChange fnExactFormatProgramWrong)

/-- 'laws.FnExactFailingInputs': WHATEVER THE INPUT: true; the input reads as it did. -/
def fnExactFailingInputsSpec : ChangeSpec := { name := "fnExactFailingInputs", fn := fun _ => fun
  | [d] => { results := [.lit (.bool true)], args := [d] }
  | _ => none }
def fnExactFailingInputsRow : OpenClaim := { program := "ytcjaokcpijkceaagreat", sum := "93d734345b27f5313a1c2b1b383517c85890df0dd0972b8d32436c6a6dddad20", func := "loop.example/g00582/laws.FnExactFailingInputs", spec := "fnExactFailingInputs", inPlace := ["internal/bytealg.IndexByteString"], unfollowed := true, recurses := true, loops := true, plainKeys := false, apart := false }
def FnExactFailingInputsSaid : Prop := fnExactFailingInputsRow.holds Tryz.pinned (OpenSpec.ofChange fnExactFailingInputsSpec)

/-- ITS FALSE NEIGHBOUR: 'it returns false'. Refute it at one input. -/
def fnExactFailingInputsWrong : ChangeSpec := { name := "fnExactFailingInputs", fn := fun _ => fun
  | [d] => { results := [.lit (.bool false)], args := [d] }
  | _ => none }
def FnExactFailingInputsWrongFalsely : Prop := fnExactFailingInputsRow.holds Tryz.pinned (OpenSpec.ofChange fnExactFailingInputsWrong)

/-- 'laws.FnExactIsSafe': WHATEVER THE INPUT: true; the input reads as it did. -/
def fnExactIsSafeSpec : ChangeSpec := { name := "fnExactIsSafe", fn := fun _ => fun
  | [d] => { results := [.lit (.bool true)], args := [d] }
  | _ => none }
def fnExactIsSafeRow : OpenClaim := { program := "ytcjaokcpijkceaagreat", sum := "93d734345b27f5313a1c2b1b383517c85890df0dd0972b8d32436c6a6dddad20", func := "loop.example/g00582/laws.FnExactIsSafe", spec := "fnExactIsSafe", inPlace := ["internal/bytealg.IndexByteString"], unfollowed := true, recurses := true, loops := true, plainKeys := false, apart := false }
def FnExactIsSafeSaid : Prop := fnExactIsSafeRow.holds Tryz.pinned (OpenSpec.ofChange fnExactIsSafeSpec)

/-- ITS FALSE NEIGHBOUR: 'it returns false'. Refute it at one input. -/
def fnExactIsSafeWrong : ChangeSpec := { name := "fnExactIsSafe", fn := fun _ => fun
  | [d] => { results := [.lit (.bool false)], args := [d] }
  | _ => none }
def FnExactIsSafeWrongFalsely : Prop := fnExactIsSafeRow.holds Tryz.pinned (OpenSpec.ofChange fnExactIsSafeWrong)

/-- 'laws.FnExactSearchFrame': WHATEVER THE INPUT: true; the input reads as it did. -/
def fnExactSearchFrameSpec : ChangeSpec := { name := "fnExactSearchFrame", fn := fun _ => fun
  | [d] => { results := [.lit (.bool true)], args := [d] }
  | _ => none }
def fnExactSearchFrameRow : OpenClaim := { program := "ytcjaokcpijkceaagreat", sum := "93d734345b27f5313a1c2b1b383517c85890df0dd0972b8d32436c6a6dddad20", func := "loop.example/g00582/laws.FnExactSearchFrame", spec := "fnExactSearchFrame", inPlace := ["internal/bytealg.IndexByteString"], unfollowed := true, recurses := true, plainKeys := false, apart := false }
def FnExactSearchFrameSaid : Prop := fnExactSearchFrameRow.holds Tryz.pinned (OpenSpec.ofChange fnExactSearchFrameSpec)

/-- ITS FALSE NEIGHBOUR: 'it returns false'. Refute it at one input. -/
def fnExactSearchFrameWrong : ChangeSpec := { name := "fnExactSearchFrame", fn := fun _ => fun
  | [d] => { results := [.lit (.bool false)], args := [d] }
  | _ => none }
def FnExactSearchFrameWrongFalsely : Prop := fnExactSearchFrameRow.holds Tryz.pinned (OpenSpec.ofChange fnExactSearchFrameWrong)

/-- 'laws.FnExactIsComplete': WHATEVER THE INPUT: true; the input reads as it did. -/
def fnExactIsCompleteSpec : ChangeSpec := { name := "fnExactIsComplete", fn := fun _ => fun
  | [d] => { results := [.lit (.bool true)], args := [d] }
  | _ => none }
def fnExactIsCompleteRow : OpenClaim := { program := "ytcjaokcpijkceaagreat", sum := "93d734345b27f5313a1c2b1b383517c85890df0dd0972b8d32436c6a6dddad20", func := "loop.example/g00582/laws.FnExactIsComplete", spec := "fnExactIsComplete", inPlace := ["internal/bytealg.IndexByteString", "internal/abi.NoEscape", "internal/bytealg.MakeNoZero"], unfollowed := true, recurses := true, loops := true, plainKeys := false, apart := false }
def FnExactIsCompleteSaid : Prop := fnExactIsCompleteRow.holds Tryz.pinned (OpenSpec.ofChange fnExactIsCompleteSpec)

/-- ITS FALSE NEIGHBOUR: 'it returns false'. Refute it at one input. -/
def fnExactIsCompleteWrong : ChangeSpec := { name := "fnExactIsComplete", fn := fun _ => fun
  | [d] => { results := [.lit (.bool false)], args := [d] }
  | _ => none }
def FnExactIsCompleteWrongFalsely : Prop := fnExactIsCompleteRow.holds Tryz.pinned (OpenSpec.ofChange fnExactIsCompleteWrong)

/- THE SECOND FORM. 'bulk': how many values and letters a reading holds, each counted each time it is reached (what is shared counts as often as it is met; a slice's spare places count too). A statement '..UptoSaid' is the law's where the arguments, and the package variables that the reading takes, are together of bulk at most 1048576: NARROWER than '..Said'. Prove '..Said' where nothing that the law and all that it calls make is longer than what came in: it says more and counts as full. Else prove '..UptoSaid'. A law counts once. -/
mutual
def uptoBulk {H : Type} : DataW H → Nat
  | .lit (.string bytes) => bytes.length + 1
  | .lit _ => 1
  | .nil => 1
  | .ptr d => uptoBulk d + 1
  | .slice elems spare => uptoBulkAll elems + uptoBulkAll spare + 1
  | .agg parts => uptoBulkAll parts + 1
  | .iface _ d => uptoBulk d + 1
  | .map entries => uptoBulkEntries entries + 1
  | .held _ => 1
def uptoBulkAll {H : Type} : List (DataW H) → Nat
  | [] => 0
  | d :: r => uptoBulk d + uptoBulkAll r
def uptoBulkEntries {H : Type} : List (Lit × DataW H) → Nat
  | [] => 0
  | x :: r => uptoBulkEntry x + uptoBulkEntries r
def uptoBulkEntry {H : Type} : Lit × DataW H → Nat
  | (.string bytes, d) => bytes.length + uptoBulk d + 1
  | (_, d) => uptoBulk d + 1
 end
def uptoSmall : (H : Type) → List (DataW H) → Bool := fun _ ds => decide (uptoBulkAll ds ≤ 1048576)
def OpenSpec.upto (s : _root_.Go.ChangeSpec) : _root_.Go.OpenSpec := { _root_.Go.OpenSpec.ofChange s with cond := some uptoSmall }

/-- 'laws.FnExactRunProgram', WHERE WHAT IT READS IS OF BULK AT MOST 1048576: true; the input reads as it did. -/
def fnExactRunProgramUptoRow : OpenClaim := { program := "ytcjaokcpijkceaagreat", sum := "93d734345b27f5313a1c2b1b383517c85890df0dd0972b8d32436c6a6dddad20", func := "loop.example/g00582/laws.FnExactRunProgram", spec := "fnExactRunProgram", inPlace := ["internal/bytealg.IndexByteString"], unfollowed := true, recurses := true, loops := true, plainKeys := false, apart := false, narrowed := true }
def FnExactRunProgramUptoSaid : Prop := fnExactRunProgramUptoRow.holds Tryz.pinned (OpenSpec.upto fnExactRunProgramSpec)

/-- 'laws.FnExactFormatProgram', WHERE WHAT IT READS IS OF BULK AT MOST 1048576: true; the input reads as it did. -/
def fnExactFormatProgramUptoRow : OpenClaim := { program := "ytcjaokcpijkceaagreat", sum := "93d734345b27f5313a1c2b1b383517c85890df0dd0972b8d32436c6a6dddad20", func := "loop.example/g00582/laws.FnExactFormatProgram", spec := "fnExactFormatProgram", inPlace := ["internal/bytealg.IndexByteString"], unfollowed := true, recurses := true, loops := true, plainKeys := false, apart := false, narrowed := true }
def FnExactFormatProgramUptoSaid : Prop := fnExactFormatProgramUptoRow.holds Tryz.pinned (OpenSpec.upto fnExactFormatProgramSpec)

/-- 'laws.FnExactFailingInputs', WHERE WHAT IT READS IS OF BULK AT MOST 1048576: true; the input reads as it did. -/
def fnExactFailingInputsUptoRow : OpenClaim := { program := "ytcjaokcpijkceaagreat", sum := "93d734345b27f5313a1c2b1b383517c85890df0dd0972b8d32436c6a6dddad20", func := "loop.example/g00582/laws.FnExactFailingInputs", spec := "fnExactFailingInputs", inPlace := ["internal/bytealg.IndexByteString"], unfollowed := true, recurses := true, loops := true, plainKeys := false, apart := false, narrowed := true }
def FnExactFailingInputsUptoSaid : Prop := fnExactFailingInputsUptoRow.holds Tryz.pinned (OpenSpec.upto fnExactFailingInputsSpec)

/-- 'laws.FnExactIsSafe', WHERE WHAT IT READS IS OF BULK AT MOST 1048576: true; the input reads as it did. -/
def fnExactIsSafeUptoRow : OpenClaim := { program := "ytcjaokcpijkceaagreat", sum := "93d734345b27f5313a1c2b1b383517c85890df0dd0972b8d32436c6a6dddad20", func := "loop.example/g00582/laws.FnExactIsSafe", spec := "fnExactIsSafe", inPlace := ["internal/bytealg.IndexByteString"], unfollowed := true, recurses := true, loops := true, plainKeys := false, apart := false, narrowed := true }
def FnExactIsSafeUptoSaid : Prop := fnExactIsSafeUptoRow.holds Tryz.pinned (OpenSpec.upto fnExactIsSafeSpec)

/-- 'laws.FnExactSearchFrame', WHERE WHAT IT READS IS OF BULK AT MOST 1048576: true; the input reads as it did. -/
def fnExactSearchFrameUptoRow : OpenClaim := { program := "ytcjaokcpijkceaagreat", sum := "93d734345b27f5313a1c2b1b383517c85890df0dd0972b8d32436c6a6dddad20", func := "loop.example/g00582/laws.FnExactSearchFrame", spec := "fnExactSearchFrame", inPlace := ["internal/bytealg.IndexByteString"], unfollowed := true, recurses := true, plainKeys := false, apart := false, narrowed := true }
def FnExactSearchFrameUptoSaid : Prop := fnExactSearchFrameUptoRow.holds Tryz.pinned (OpenSpec.upto fnExactSearchFrameSpec)

/-- 'laws.FnExactIsComplete', WHERE WHAT IT READS IS OF BULK AT MOST 1048576: true; the input reads as it did. -/
def fnExactIsCompleteUptoRow : OpenClaim := { program := "ytcjaokcpijkceaagreat", sum := "93d734345b27f5313a1c2b1b383517c85890df0dd0972b8d32436c6a6dddad20", func := "loop.example/g00582/laws.FnExactIsComplete", spec := "fnExactIsComplete", inPlace := ["internal/bytealg.IndexByteString", "internal/abi.NoEscape", "internal/bytealg.MakeNoZero"], unfollowed := true, recurses := true, loops := true, plainKeys := false, apart := false, narrowed := true }
def FnExactIsCompleteUptoSaid : Prop := fnExactIsCompleteUptoRow.holds Tryz.pinned (OpenSpec.upto fnExactIsCompleteSpec)

end Rows
end Go.Proofs.YtcjaokcpijkceaaGreat
