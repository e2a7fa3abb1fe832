/-
  NARROWER THAN 'FOR EVERY INPUT', by the rows' own cells (each row's printed sentence says how): FnExactEqualSession: loops.
  DERIVED. THE GIVEN ROWS OF THIS SEAT. 8 by the template 'for every input the law returns true; each argument reads behind the call as it read before'; 0 by the template 'total and deterministic' (their statements: YtdepiibcopbjlaaTotals.lean).
  GIVEN WITH THE SEED: the statements are not yours to turn. If you find one false, say at which input.
  Laid BY PROGRAM, IN A SANDBOX (cutbox-rows.mjs): the forced cells as the released guide's own fill.sh prints them over the translation 91740ae46072c91d… (all of the seat's roots in one cut). By AI agents, Wed Nov 11 2026. No macro, syntax, notation, axiom, sorry.
-/
import Derived.Test.YtdepiibcopbjlaaChecked
import GoSem.Claim
import GoSem.ClaimJoined
import GoSem.ClaimMapViews
import Derived.JoinedTies
import Derived.KernelRfl
namespace Go.Proofs.Ytdepiibcopbjlaa
/- THE CELL 'sum', in the pinned program and in every row, IS THE sha256 OF THE DUMP (.gsa) THAT YtdepiibcopbjlaaProg.lean LOADS. Nothing in Lean hashes anything: it is a label: what it is worth is what the hold of that sum in a sandbox is worth. -/
noncomputable def Try.pinned : Pinned := { name := "ytdepiibcopbjlaa", sum := "91740ae46072c91da4f538381a73d3662b234d7729a188254ce171ea2abe5f5c", checked := Try.checked }
namespace Rows
def none {H : Type} : Left H := { results := [], args := [] }

/-- 'laws.FnExactExampleText': WHATEVER THE INPUT: true; the input reads as it did. -/
def fnExactExampleTextSpec : ChangeSpec := { name := "fnExactExampleText", fn := fun _ => fun
  | [d] => { results := [.lit (.bool true)], args := [d] }
  | _ => none }
def fnExactExampleTextRow : OpenClaim := { program := "ytdepiibcopbjlaa", sum := "91740ae46072c91da4f538381a73d3662b234d7729a188254ce171ea2abe5f5c", func := "loop.example/g00582/laws.FnExactExampleText", spec := "fnExactExampleText", apart := false }
def FnExactExampleTextSaid : Prop := fnExactExampleTextRow.holds Try.pinned (OpenSpec.ofChange fnExactExampleTextSpec)

/-- ITS FALSE NEIGHBOUR: 'it returns false'. Refute it at one input. -/
def fnExactExampleTextWrong : ChangeSpec := { name := "fnExactExampleText", fn := fun _ => fun
  | [d] => { results := [.lit (.bool false)], args := [d] }
  | _ => none }
def FnExactExampleTextWrongFalsely : Prop := fnExactExampleTextRow.holds Try.pinned (OpenSpec.ofChange fnExactExampleTextWrong)

/-- 'laws.FnExactIsMorphism': WHATEVER THE INPUT: true; the input reads as it did. -/
def fnExactIsMorphismSpec : ChangeSpec := { name := "fnExactIsMorphism", fn := fun _ => fun
  | [d] => { results := [.lit (.bool true)], args := [d] }
  | _ => none }
def fnExactIsMorphismRow : OpenClaim := { program := "ytdepiibcopbjlaa", sum := "91740ae46072c91da4f538381a73d3662b234d7729a188254ce171ea2abe5f5c", func := "loop.example/g00582/laws.FnExactIsMorphism", spec := "fnExactIsMorphism", inPlace := ["internal/bytealg.IndexByteString"], apart := false }
def FnExactIsMorphismSaid : Prop := fnExactIsMorphismRow.holds Try.pinned (OpenSpec.ofChange fnExactIsMorphismSpec)

/-- ITS FALSE NEIGHBOUR: 'it returns false'. Refute it at one input. -/
def fnExactIsMorphismWrong : ChangeSpec := { name := "fnExactIsMorphism", fn := fun _ => fun
  | [d] => { results := [.lit (.bool false)], args := [d] }
  | _ => none }
def FnExactIsMorphismWrongFalsely : Prop := fnExactIsMorphismRow.holds Try.pinned (OpenSpec.ofChange fnExactIsMorphismWrong)

/-- 'laws.FnExactApplyMorphism': WHATEVER THE INPUT: true; the input reads as it did. -/
def fnExactApplyMorphismSpec : ChangeSpec := { name := "fnExactApplyMorphism", fn := fun _ => fun
  | [d1, d2] => { results := [.lit (.bool true)], args := [d1, d2] }
  | _ => none }
def fnExactApplyMorphismRow : OpenClaim := { program := "ytdepiibcopbjlaa", sum := "91740ae46072c91da4f538381a73d3662b234d7729a188254ce171ea2abe5f5c", func := "loop.example/g00582/laws.FnExactApplyMorphism", spec := "fnExactApplyMorphism", unfollowed := true, recurses := true, apart := false }
def FnExactApplyMorphismSaid : Prop := fnExactApplyMorphismRow.holds Try.pinned (OpenSpec.ofChange fnExactApplyMorphismSpec)

/-- ITS FALSE NEIGHBOUR: 'it returns false'. Refute it at one input. -/
def fnExactApplyMorphismWrong : ChangeSpec := { name := "fnExactApplyMorphism", fn := fun _ => fun
  | [d1, d2] => { results := [.lit (.bool false)], args := [d1, d2] }
  | _ => none }
def FnExactApplyMorphismWrongFalsely : Prop := fnExactApplyMorphismRow.holds Try.pinned (OpenSpec.ofChange fnExactApplyMorphismWrong)

/-- 'laws.FnExactComposeMorphisms': WHATEVER THE INPUT: true; the input reads as it did. -/
def fnExactComposeMorphismsSpec : ChangeSpec := { name := "fnExactComposeMorphisms", fn := fun _ => fun
  | [d1, d2] => { results := [.lit (.bool true)], args := [d1, d2] }
  | _ => none }
def fnExactComposeMorphismsRow : OpenClaim := { program := "ytdepiibcopbjlaa", sum := "91740ae46072c91da4f538381a73d3662b234d7729a188254ce171ea2abe5f5c", func := "loop.example/g00582/laws.FnExactComposeMorphisms", spec := "fnExactComposeMorphisms", inPlace := ["internal/bytealg.IndexByteString"], unfollowed := true, recurses := true, apart := false }
def FnExactComposeMorphismsSaid : Prop := fnExactComposeMorphismsRow.holds Try.pinned (OpenSpec.ofChange fnExactComposeMorphismsSpec)

/-- ITS FALSE NEIGHBOUR: 'it returns false'. Refute it at one input. -/
def fnExactComposeMorphismsWrong : ChangeSpec := { name := "fnExactComposeMorphisms", fn := fun _ => fun
  | [d1, d2] => { results := [.lit (.bool false)], args := [d1, d2] }
  | _ => none }
def FnExactComposeMorphismsWrongFalsely : Prop := fnExactComposeMorphismsRow.holds Try.pinned (OpenSpec.ofChange fnExactComposeMorphismsWrong)

/-- 'laws.FnExactHasState': WHATEVER THE INPUT: true; the input reads as it did. -/
def fnExactHasStateSpec : ChangeSpec := { name := "fnExactHasState", fn := fun _ => fun
  | [d1, d2] => { results := [.lit (.bool true)], args := [d1, d2] }
  | _ => none }
def fnExactHasStateRow : OpenClaim := { program := "ytdepiibcopbjlaa", sum := "91740ae46072c91da4f538381a73d3662b234d7729a188254ce171ea2abe5f5c", func := "loop.example/g00582/laws.FnExactHasState", spec := "fnExactHasState", unfollowed := true, recurses := true, apart := false }
def FnExactHasStateSaid : Prop := fnExactHasStateRow.holds Try.pinned (OpenSpec.ofChange fnExactHasStateSpec)

/-- ITS FALSE NEIGHBOUR: 'it returns false'. Refute it at one input. -/
def fnExactHasStateWrong : ChangeSpec := { name := "fnExactHasState", fn := fun _ => fun
  | [d1, d2] => { results := [.lit (.bool false)], args := [d1, d2] }
  | _ => none }
def FnExactHasStateWrongFalsely : Prop := fnExactHasStateRow.holds Try.pinned (OpenSpec.ofChange fnExactHasStateWrong)

/-- 'laws.FnExactEqualSearch': WHATEVER THE INPUT: true; the input reads as it did. -/
def fnExactEqualSearchSpec : ChangeSpec := { name := "fnExactEqualSearch", fn := fun _ => fun
  | [d1, d2] => { results := [.lit (.bool true)], args := [d1, d2] }
  | _ => none }
def fnExactEqualSearchRow : OpenClaim := { program := "ytdepiibcopbjlaa", sum := "91740ae46072c91da4f538381a73d3662b234d7729a188254ce171ea2abe5f5c", func := "loop.example/g00582/laws.FnExactEqualSearch", spec := "fnExactEqualSearch", unfollowed := true, recurses := true, apart := false }
def FnExactEqualSearchSaid : Prop := fnExactEqualSearchRow.holds Try.pinned (OpenSpec.ofChange fnExactEqualSearchSpec)

/-- ITS FALSE NEIGHBOUR: 'it returns false'. Refute it at one input. -/
def fnExactEqualSearchWrong : ChangeSpec := { name := "fnExactEqualSearch", fn := fun _ => fun
  | [d1, d2] => { results := [.lit (.bool false)], args := [d1, d2] }
  | _ => none }
def FnExactEqualSearchWrongFalsely : Prop := fnExactEqualSearchRow.holds Try.pinned (OpenSpec.ofChange fnExactEqualSearchWrong)

/-- 'laws.FnExactFitsState': WHATEVER THE INPUT: true; the input reads as it did. -/
def fnExactFitsStateSpec : ChangeSpec := { name := "fnExactFitsState", fn := fun _ => fun
  | [d1, d2, d3] => { results := [.lit (.bool true)], args := [d1, d2, d3] }
  | _ => none }
def fnExactFitsStateRow : OpenClaim := { program := "ytdepiibcopbjlaa", sum := "91740ae46072c91da4f538381a73d3662b234d7729a188254ce171ea2abe5f5c", func := "loop.example/g00582/laws.FnExactFitsState", spec := "fnExactFitsState", inPlace := ["internal/bytealg.IndexByteString"], unfollowed := true, recurses := true, apart := false }
def FnExactFitsStateSaid : Prop := fnExactFitsStateRow.holds Try.pinned (OpenSpec.ofChange fnExactFitsStateSpec)

/-- ITS FALSE NEIGHBOUR: 'it returns false'. Refute it at one input. -/
def fnExactFitsStateWrong : ChangeSpec := { name := "fnExactFitsState", fn := fun _ => fun
  | [d1, d2, d3] => { results := [.lit (.bool false)], args := [d1, d2, d3] }
  | _ => none }
def FnExactFitsStateWrongFalsely : Prop := fnExactFitsStateRow.holds Try.pinned (OpenSpec.ofChange fnExactFitsStateWrong)

/-- 'laws.FnExactEqualSession': WHATEVER THE INPUT: true; the input reads as it did. -/
def fnExactEqualSessionSpec : ChangeSpec := { name := "fnExactEqualSession", fn := fun _ => fun
  | [d1, d2] => { results := [.lit (.bool true)], args := [d1, d2] }
  | _ => none }
def fnExactEqualSessionRow : OpenClaim := { program := "ytdepiibcopbjlaa", sum := "91740ae46072c91da4f538381a73d3662b234d7729a188254ce171ea2abe5f5c", func := "loop.example/g00582/laws.FnExactEqualSession", spec := "fnExactEqualSession", unfollowed := true, recurses := true, loops := true, apart := false }
def FnExactEqualSessionSaid : Prop := fnExactEqualSessionRow.holds Try.pinned (OpenSpec.ofChange fnExactEqualSessionSpec)

/-- ITS FALSE NEIGHBOUR: 'it returns false'. Refute it at one input. -/
def fnExactEqualSessionWrong : ChangeSpec := { name := "fnExactEqualSession", fn := fun _ => fun
  | [d1, d2] => { results := [.lit (.bool false)], args := [d1, d2] }
  | _ => none }
def FnExactEqualSessionWrongFalsely : Prop := fnExactEqualSessionRow.holds Try.pinned (OpenSpec.ofChange fnExactEqualSessionWrong)

/- THE SECOND FORM. 'bulk': how many values and letters a reading holds, each counted each time it is reached (what is shared counts as often as it is met; a slice's spare places count too). A statement '..UptoSaid' is the law's where the arguments, and the package variables that the reading takes, are together of bulk at most 1048576: NARROWER than '..Said'. Prove '..Said' where nothing that the law and all that it calls make is longer than what came in: it says more and counts as full. Else prove '..UptoSaid'. A law counts once. -/
mutual
def uptoBulk {H : Type} : DataW H → Nat
  | .lit (.string bytes) => bytes.length + 1
  | .lit _ => 1
  | .nil => 1
  | .ptr d => uptoBulk d + 1
  | .slice elems spare => uptoBulkAll elems + uptoBulkAll spare + 1
  | .agg parts => uptoBulkAll parts + 1
  | .iface _ d => uptoBulk d + 1
  | .map entries => uptoBulkEntries entries + 1
  | .held _ => 1
def uptoBulkAll {H : Type} : List (DataW H) → Nat
  | [] => 0
  | d :: r => uptoBulk d + uptoBulkAll r
def uptoBulkEntries {H : Type} : List (Lit × DataW H) → Nat
  | [] => 0
  | x :: r => uptoBulkEntry x + uptoBulkEntries r
def uptoBulkEntry {H : Type} : Lit × DataW H → Nat
  | (.string bytes, d) => bytes.length + uptoBulk d + 1
  | (_, d) => uptoBulk d + 1
 end
def uptoSmall : (H : Type) → List (DataW H) → Bool := fun _ ds => decide (uptoBulkAll ds ≤ 1048576)
def OpenSpec.upto (s : _root_.Go.ChangeSpec) : _root_.Go.OpenSpec := { _root_.Go.OpenSpec.ofChange s with cond := some uptoSmall }

/-- 'laws.FnExactExampleText', WHERE WHAT IT READS IS OF BULK AT MOST 1048576: true; the input reads as it did. -/
def fnExactExampleTextUptoRow : OpenClaim := { program := "ytdepiibcopbjlaa", sum := "91740ae46072c91da4f538381a73d3662b234d7729a188254ce171ea2abe5f5c", func := "loop.example/g00582/laws.FnExactExampleText", spec := "fnExactExampleText", apart := false, narrowed := true }
def FnExactExampleTextUptoSaid : Prop := fnExactExampleTextUptoRow.holds Try.pinned (OpenSpec.upto fnExactExampleTextSpec)

/-- 'laws.FnExactIsMorphism', WHERE WHAT IT READS IS OF BULK AT MOST 1048576: true; the input reads as it did. -/
def fnExactIsMorphismUptoRow : OpenClaim := { program := "ytdepiibcopbjlaa", sum := "91740ae46072c91da4f538381a73d3662b234d7729a188254ce171ea2abe5f5c", func := "loop.example/g00582/laws.FnExactIsMorphism", spec := "fnExactIsMorphism", inPlace := ["internal/bytealg.IndexByteString"], apart := false, narrowed := true }
def FnExactIsMorphismUptoSaid : Prop := fnExactIsMorphismUptoRow.holds Try.pinned (OpenSpec.upto fnExactIsMorphismSpec)

/-- 'laws.FnExactApplyMorphism', WHERE WHAT IT READS IS OF BULK AT MOST 1048576: true; the input reads as it did. -/
def fnExactApplyMorphismUptoRow : OpenClaim := { program := "ytdepiibcopbjlaa", sum := "91740ae46072c91da4f538381a73d3662b234d7729a188254ce171ea2abe5f5c", func := "loop.example/g00582/laws.FnExactApplyMorphism", spec := "fnExactApplyMorphism", unfollowed := true, recurses := true, apart := false, narrowed := true }
def FnExactApplyMorphismUptoSaid : Prop := fnExactApplyMorphismUptoRow.holds Try.pinned (OpenSpec.upto fnExactApplyMorphismSpec)

/-- 'laws.FnExactComposeMorphisms', WHERE WHAT IT READS IS OF BULK AT MOST 1048576: true; the input reads as it did. -/
def fnExactComposeMorphismsUptoRow : OpenClaim := { program := "ytdepiibcopbjlaa", sum := "91740ae46072c91da4f538381a73d3662b234d7729a188254ce171ea2abe5f5c", func := "loop.example/g00582/laws.FnExactComposeMorphisms", spec := "fnExactComposeMorphisms", inPlace := ["internal/bytealg.IndexByteString"], unfollowed := true, recurses := true, apart := false, narrowed := true }
def FnExactComposeMorphismsUptoSaid : Prop := fnExactComposeMorphismsUptoRow.holds Try.pinned (OpenSpec.upto fnExactComposeMorphismsSpec)

/-- 'laws.FnExactHasState', WHERE WHAT IT READS IS OF BULK AT MOST 1048576: true; the input reads as it did. -/
def fnExactHasStateUptoRow : OpenClaim := { program := "ytdepiibcopbjlaa", sum := "91740ae46072c91da4f538381a73d3662b234d7729a188254ce171ea2abe5f5c", func := "loop.example/g00582/laws.FnExactHasState", spec := "fnExactHasState", unfollowed := true, recurses := true, apart := false, narrowed := true }
def FnExactHasStateUptoSaid : Prop := fnExactHasStateUptoRow.holds Try.pinned (OpenSpec.upto fnExactHasStateSpec)

/-- 'laws.FnExactEqualSearch', WHERE WHAT IT READS IS OF BULK AT MOST 1048576: true; the input reads as it did. -/
def fnExactEqualSearchUptoRow : OpenClaim := { program := "ytdepiibcopbjlaa", sum := "91740ae46072c91da4f538381a73d3662b234d7729a188254ce171ea2abe5f5c", func := "loop.example/g00582/laws.FnExactEqualSearch", spec := "fnExactEqualSearch", unfollowed := true, recurses := true, apart := false, narrowed := true }
def FnExactEqualSearchUptoSaid : Prop := fnExactEqualSearchUptoRow.holds Try.pinned (OpenSpec.upto fnExactEqualSearchSpec)

/-- 'laws.FnExactFitsState', WHERE WHAT IT READS IS OF BULK AT MOST 1048576: true; the input reads as it did. -/
def fnExactFitsStateUptoRow : OpenClaim := { program := "ytdepiibcopbjlaa", sum := "91740ae46072c91da4f538381a73d3662b234d7729a188254ce171ea2abe5f5c", func := "loop.example/g00582/laws.FnExactFitsState", spec := "fnExactFitsState", inPlace := ["internal/bytealg.IndexByteString"], unfollowed := true, recurses := true, apart := false, narrowed := true }
def FnExactFitsStateUptoSaid : Prop := fnExactFitsStateUptoRow.holds Try.pinned (OpenSpec.upto fnExactFitsStateSpec)

/-- 'laws.FnExactEqualSession', WHERE WHAT IT READS IS OF BULK AT MOST 1048576: true; the input reads as it did. -/
def fnExactEqualSessionUptoRow : OpenClaim := { program := "ytdepiibcopbjlaa", sum := "91740ae46072c91da4f538381a73d3662b234d7729a188254ce171ea2abe5f5c", func := "loop.example/g00582/laws.FnExactEqualSession", spec := "fnExactEqualSession", unfollowed := true, recurses := true, loops := true, apart := false, narrowed := true }
def FnExactEqualSessionUptoSaid : Prop := fnExactEqualSessionUptoRow.holds Try.pinned (OpenSpec.upto fnExactEqualSessionSpec)

end Rows
end Go.Proofs.Ytdepiibcopbjlaa
