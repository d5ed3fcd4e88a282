/-
  NARROWER THAN 'FOR EVERY INPUT', by the rows' own cells (each row's printed sentence says how): FnExactFormatCore: loops · FnExactRename: loops.
  DERIVED. THE GIVEN ROWS OF THIS SEAT. 2 by the template 'for every input the law returns true; each argument reads behind the call as it read before'; 0 by the template 'total and deterministic' (their statements: YtagfphlhahiplaaTotals.lean).
  GIVEN WITH THE SEED: the statements are not yours to turn. If you find one false, say at which input.
  Laid BY PROGRAM, IN A SANDBOX (cutbox-rows.mjs): the forced cells as the released guide's own fill.sh prints them over the translation 819f3820e1dc84d9… (all of the seat's roots in one cut). By AI agents, Wed Nov 11 2026. No macro, syntax, notation, axiom, sorry.
-/
import Derived.Test.YtagfphlhahiplaaChecked
import GoSem.Claim
import GoSem.ClaimJoined
import GoSem.ClaimMapViews
import Derived.JoinedTies
import Derived.KernelRfl
namespace Go.Proofs.Ytagfphlhahiplaa
/- THE CELL 'sum', in the pinned program and in every row, IS THE sha256 OF THE DUMP (.gsa) THAT YtagfphlhahiplaaProg.lean LOADS. Nothing in Lean hashes anything: it is a label: what it is worth is what the hold of that sum in a sandbox is worth. -/
noncomputable def Try.pinned : Pinned := { name := "ytagfphlhahiplaa", sum := "819f3820e1dc84d94698a95801b9aba5e9e673cc4b0b8e8390b65a0aedd24f32", checked := Try.checked }
namespace Rows
def none {H : Type} : Left H := { results := [], args := [] }

/-- 'laws.FnExactFormatCore': WHATEVER THE INPUT: true; the input reads as it did. -/
def fnExactFormatCoreSpec : ChangeSpec := { name := "fnExactFormatCore", fn := fun _ => fun
  | [d] => { results := [.lit (.bool true)], args := [d] }
  | _ => none }
def fnExactFormatCoreRow : OpenClaim := { program := "ytagfphlhahiplaa", sum := "819f3820e1dc84d94698a95801b9aba5e9e673cc4b0b8e8390b65a0aedd24f32", func := "loop.example/g00017/laws.FnExactFormatCore", spec := "fnExactFormatCore", inPlace := ["internal/abi.NoEscape", "internal/bytealg.MakeNoZero"], unfollowed := true, recurses := true, loops := true, apart := false }
def FnExactFormatCoreSaid : Prop := fnExactFormatCoreRow.holds Try.pinned (OpenSpec.ofChange fnExactFormatCoreSpec)

/-- ITS FALSE NEIGHBOUR: 'it returns false'. Refute it at one input. -/
def fnExactFormatCoreWrong : ChangeSpec := { name := "fnExactFormatCore", fn := fun _ => fun
  | [d] => { results := [.lit (.bool false)], args := [d] }
  | _ => none }
def FnExactFormatCoreWrongFalsely : Prop := fnExactFormatCoreRow.holds Try.pinned (OpenSpec.ofChange fnExactFormatCoreWrong)

/-- 'laws.FnExactRename': WHATEVER THE INPUT: true; the input reads as it did. -/
def fnExactRenameSpec : ChangeSpec := { name := "fnExactRename", fn := fun _ => fun
  | [d1, d2, d3] => { results := [.lit (.bool true)], args := [d1, d2, d3] }
  | _ => none }
def fnExactRenameRow : OpenClaim := { program := "ytagfphlhahiplaa", sum := "819f3820e1dc84d94698a95801b9aba5e9e673cc4b0b8e8390b65a0aedd24f32", func := "loop.example/g00017/laws.FnExactRename", spec := "fnExactRename", unfollowed := true, recurses := true, loops := true, apart := false }
def FnExactRenameSaid : Prop := fnExactRenameRow.holds Try.pinned (OpenSpec.ofChange fnExactRenameSpec)

/-- ITS FALSE NEIGHBOUR: 'it returns false'. Refute it at one input. -/
def fnExactRenameWrong : ChangeSpec := { name := "fnExactRename", fn := fun _ => fun
  | [d1, d2, d3] => { results := [.lit (.bool false)], args := [d1, d2, d3] }
  | _ => none }
def FnExactRenameWrongFalsely : Prop := fnExactRenameRow.holds Try.pinned (OpenSpec.ofChange fnExactRenameWrong)

/- THE SECOND FORM. 'bulk': how many values and letters a reading holds, each counted each time it is reached (what is shared counts as often as it is met; a slice's spare places count too). A statement '..UptoSaid' is the law's where the arguments, and the package variables that the reading takes, are together of bulk at most 1048576: NARROWER than '..Said'. Prove '..Said' where nothing that the law and all that it calls make is longer than what came in: it says more and counts as full. Else prove '..UptoSaid'. A law counts once. -/
mutual
def uptoBulk {H : Type} : DataW H → Nat
  | .lit (.string bytes) => bytes.length + 1
  | .lit _ => 1
  | .nil => 1
  | .ptr d => uptoBulk d + 1
  | .slice elems spare => uptoBulkAll elems + uptoBulkAll spare + 1
  | .agg parts => uptoBulkAll parts + 1
  | .iface _ d => uptoBulk d + 1
  | .map entries => uptoBulkEntries entries + 1
  | .held _ => 1
def uptoBulkAll {H : Type} : List (DataW H) → Nat
  | [] => 0
  | d :: r => uptoBulk d + uptoBulkAll r
def uptoBulkEntries {H : Type} : List (Lit × DataW H) → Nat
  | [] => 0
  | x :: r => uptoBulkEntry x + uptoBulkEntries r
def uptoBulkEntry {H : Type} : Lit × DataW H → Nat
  | (.string bytes, d) => bytes.length + uptoBulk d + 1
  | (_, d) => uptoBulk d + 1
 end
def uptoSmall : (H : Type) → List (DataW H) → Bool := fun _ ds => decide (uptoBulkAll ds ≤ 1048576)
def OpenSpec.upto (s : _root_.Go.ChangeSpec) : _root_.Go.OpenSpec := { _root_.Go.OpenSpec.ofChange s with cond := some uptoSmall }

/-- 'laws.FnExactFormatCore', WHERE WHAT IT READS IS OF BULK AT MOST 1048576: true; the input reads as it did. -/
def fnExactFormatCoreUptoRow : OpenClaim := { program := "ytagfphlhahiplaa", sum := "819f3820e1dc84d94698a95801b9aba5e9e673cc4b0b8e8390b65a0aedd24f32", func := "loop.example/g00017/laws.FnExactFormatCore", spec := "fnExactFormatCore", inPlace := ["internal/abi.NoEscape", "internal/bytealg.MakeNoZero"], unfollowed := true, recurses := true, loops := true, apart := false, narrowed := true }
def FnExactFormatCoreUptoSaid : Prop := fnExactFormatCoreUptoRow.holds Try.pinned (OpenSpec.upto fnExactFormatCoreSpec)

/-- 'laws.FnExactRename', WHERE WHAT IT READS IS OF BULK AT MOST 1048576: true; the input reads as it did. -/
def fnExactRenameUptoRow : OpenClaim := { program := "ytagfphlhahiplaa", sum := "819f3820e1dc84d94698a95801b9aba5e9e673cc4b0b8e8390b65a0aedd24f32", func := "loop.example/g00017/laws.FnExactRename", spec := "fnExactRename", unfollowed := true, recurses := true, loops := true, apart := false, narrowed := true }
def FnExactRenameUptoSaid : Prop := fnExactRenameUptoRow.holds Try.pinned (OpenSpec.upto fnExactRenameSpec)

end Rows
end Go.Proofs.Ytagfphlhahiplaa
