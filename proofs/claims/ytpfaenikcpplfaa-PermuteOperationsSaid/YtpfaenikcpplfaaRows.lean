/-
  No cell of these rows narrows 'for every input' (looked for: loops, veiled, ifaces, maps, wideKeys, modest, calm, conditions, laid).
  DERIVED. THE GIVEN ROWS OF THIS SEAT. 5 by the template 'for every input the law returns true; each argument reads behind the call as it read before'; 0 by the template 'total and deterministic' (their statements: YtpfaenikcpplfaaTotals.lean).
  GIVEN WITH THE SEED: the statements are not yours to turn. If you find one false, say at which input.
  Laid BY PROGRAM, IN A SANDBOX (cutbox-rows.mjs): the forced cells as the released guide's own fill.sh prints them over the translation 6c950227afa5d2d9… (all of the seat's roots in one cut). By AI agents, Wed Nov 11 2026. No macro, syntax, notation, axiom, sorry.
-/
import Derived.Test.YtpfaenikcpplfaaChecked
import GoSem.Claim
import GoSem.ClaimJoined
import GoSem.ClaimMapViews
import Derived.JoinedTies
import Derived.KernelRfl
namespace Go.Proofs.Ytpfaenikcpplfaa
/- THE CELL 'sum', in the pinned program and in every row, IS THE sha256 OF THE DUMP (.gsa) THAT YtpfaenikcpplfaaProg.lean LOADS. Nothing in Lean hashes anything: it is a label: what it is worth is what the hold of that sum in a sandbox is worth. -/
noncomputable def Try.pinned : Pinned := { name := "ytpfaenikcpplfaa", sum := "6c950227afa5d2d9876d6f0e1e47811867108c9b33e357513c3f965a432c1e4b", checked := Try.checked }
namespace Rows
def none {H : Type} : Left H := { results := [], args := [] }

/-- 'caromlaw06.PermuteShuffles': WHATEVER THE INPUT: true; the input reads as it did. -/
def permuteShufflesSpec : ChangeSpec := { name := "permuteShuffles", fn := fun _ => fun
  | [d1, d2] => { results := [.lit (.bool true)], args := [d1, d2] }
  | _ => none }
def permuteShufflesRow : OpenClaim := { program := "ytpfaenikcpplfaa", sum := "6c950227afa5d2d9876d6f0e1e47811867108c9b33e357513c3f965a432c1e4b", func := "carom/caromlaw06.PermuteShuffles", spec := "permuteShuffles", apart := false }
def PermuteShufflesSaid : Prop := permuteShufflesRow.holds Try.pinned (OpenSpec.ofChange permuteShufflesSpec)

/-- ITS FALSE NEIGHBOUR: 'it returns false'. Refute it at one input. -/
def permuteShufflesWrong : ChangeSpec := { name := "permuteShuffles", fn := fun _ => fun
  | [d1, d2] => { results := [.lit (.bool false)], args := [d1, d2] }
  | _ => none }
def PermuteShufflesWrongFalsely : Prop := permuteShufflesRow.holds Try.pinned (OpenSpec.ofChange permuteShufflesWrong)

/-- 'caromlaw06.PermuteNextIntn': WHATEVER THE INPUT: true; the input reads as it did. -/
def permuteNextIntnSpec : ChangeSpec := { name := "permuteNextIntn", fn := fun _ => fun
  | [d1, d2] => { results := [.lit (.bool true)], args := [d1, d2] }
  | _ => none }
def permuteNextIntnRow : OpenClaim := { program := "ytpfaenikcpplfaa", sum := "6c950227afa5d2d9876d6f0e1e47811867108c9b33e357513c3f965a432c1e4b", func := "carom/caromlaw06.PermuteNextIntn", spec := "permuteNextIntn", apart := false }
def PermuteNextIntnSaid : Prop := permuteNextIntnRow.holds Try.pinned (OpenSpec.ofChange permuteNextIntnSpec)

/-- ITS FALSE NEIGHBOUR: 'it returns false'. Refute it at one input. -/
def permuteNextIntnWrong : ChangeSpec := { name := "permuteNextIntn", fn := fun _ => fun
  | [d1, d2] => { results := [.lit (.bool false)], args := [d1, d2] }
  | _ => none }
def PermuteNextIntnWrongFalsely : Prop := permuteNextIntnRow.holds Try.pinned (OpenSpec.ofChange permuteNextIntnWrong)

/-- 'caromlaw06.PermuteOperations': WHATEVER THE INPUT: true; the input reads as it did. -/
def permuteOperationsSpec : ChangeSpec := { name := "permuteOperations", fn := fun _ => fun
  | [d1, d2] => { results := [.lit (.bool true)], args := [d1, d2] }
  | _ => none }
def permuteOperationsRow : OpenClaim := { program := "ytpfaenikcpplfaa", sum := "6c950227afa5d2d9876d6f0e1e47811867108c9b33e357513c3f965a432c1e4b", func := "carom/caromlaw06.PermuteOperations", spec := "permuteOperations", apart := false }
def PermuteOperationsSaid : Prop := permuteOperationsRow.holds Try.pinned (OpenSpec.ofChange permuteOperationsSpec)

/-- ITS FALSE NEIGHBOUR: 'it returns false'. Refute it at one input. -/
def permuteOperationsWrong : ChangeSpec := { name := "permuteOperations", fn := fun _ => fun
  | [d1, d2] => { results := [.lit (.bool false)], args := [d1, d2] }
  | _ => none }
def PermuteOperationsWrongFalsely : Prop := permuteOperationsRow.holds Try.pinned (OpenSpec.ofChange permuteOperationsWrong)

/-- 'caromlaw06.PermuteInverseRestores': WHATEVER THE INPUT: true; the input reads as it did. -/
def permuteInverseRestoresSpec : ChangeSpec := { name := "permuteInverseRestores", fn := fun _ => fun
  | [d1, d2] => { results := [.lit (.bool true)], args := [d1, d2] }
  | _ => none }
def permuteInverseRestoresRow : OpenClaim := { program := "ytpfaenikcpplfaa", sum := "6c950227afa5d2d9876d6f0e1e47811867108c9b33e357513c3f965a432c1e4b", func := "carom/caromlaw06.PermuteInverseRestores", spec := "permuteInverseRestores", apart := false }
def PermuteInverseRestoresSaid : Prop := permuteInverseRestoresRow.holds Try.pinned (OpenSpec.ofChange permuteInverseRestoresSpec)

/-- ITS FALSE NEIGHBOUR: 'it returns false'. Refute it at one input. -/
def permuteInverseRestoresWrong : ChangeSpec := { name := "permuteInverseRestores", fn := fun _ => fun
  | [d1, d2] => { results := [.lit (.bool false)], args := [d1, d2] }
  | _ => none }
def PermuteInverseRestoresWrongFalsely : Prop := permuteInverseRestoresRow.holds Try.pinned (OpenSpec.ofChange permuteInverseRestoresWrong)

/-- 'caromlaw06.PermuteComposeApply': WHATEVER THE INPUT: true; the input reads as it did. -/
def permuteComposeApplySpec : ChangeSpec := { name := "permuteComposeApply", fn := fun _ => fun
  | [d1, d2, d3] => { results := [.lit (.bool true)], args := [d1, d2, d3] }
  | _ => none }
def permuteComposeApplyRow : OpenClaim := { program := "ytpfaenikcpplfaa", sum := "6c950227afa5d2d9876d6f0e1e47811867108c9b33e357513c3f965a432c1e4b", func := "carom/caromlaw06.PermuteComposeApply", spec := "permuteComposeApply", apart := false }
def PermuteComposeApplySaid : Prop := permuteComposeApplyRow.holds Try.pinned (OpenSpec.ofChange permuteComposeApplySpec)

/-- ITS FALSE NEIGHBOUR: 'it returns false'. Refute it at one input. -/
def permuteComposeApplyWrong : ChangeSpec := { name := "permuteComposeApply", fn := fun _ => fun
  | [d1, d2, d3] => { results := [.lit (.bool false)], args := [d1, d2, d3] }
  | _ => none }
def PermuteComposeApplyWrongFalsely : Prop := permuteComposeApplyRow.holds Try.pinned (OpenSpec.ofChange permuteComposeApplyWrong)

/- THE SECOND FORM. 'bulk': how many values and letters a reading holds, each counted each time it is reached (what is shared counts as often as it is met; a slice's spare places count too). A statement '..UptoSaid' is the law's where the arguments, and the package variables that the reading takes, are together of bulk at most 1048576: NARROWER than '..Said'. Prove '..Said' where nothing that the law and all that it calls make is longer than what came in: it says more and counts as full. Else prove '..UptoSaid'. A law counts once. -/
mutual
def uptoBulk {H : Type} : DataW H → Nat
  | .lit (.string bytes) => bytes.length + 1
  | .lit _ => 1
  | .nil => 1
  | .ptr d => uptoBulk d + 1
  | .slice elems spare => uptoBulkAll elems + uptoBulkAll spare + 1
  | .agg parts => uptoBulkAll parts + 1
  | .iface _ d => uptoBulk d + 1
  | .map entries => uptoBulkEntries entries + 1
  | .held _ => 1
def uptoBulkAll {H : Type} : List (DataW H) → Nat
  | [] => 0
  | d :: r => uptoBulk d + uptoBulkAll r
def uptoBulkEntries {H : Type} : List (Lit × DataW H) → Nat
  | [] => 0
  | x :: r => uptoBulkEntry x + uptoBulkEntries r
def uptoBulkEntry {H : Type} : Lit × DataW H → Nat
  | (.string bytes, d) => bytes.length + uptoBulk d + 1
  | (_, d) => uptoBulk d + 1
 end
def uptoSmall : (H : Type) → List (DataW H) → Bool := fun _ ds => decide (uptoBulkAll ds ≤ 1048576)
def OpenSpec.upto (s : _root_.Go.ChangeSpec) : _root_.Go.OpenSpec := { _root_.Go.OpenSpec.ofChange s with cond := some uptoSmall }

/-- 'caromlaw06.PermuteShuffles', WHERE WHAT IT READS IS OF BULK AT MOST 1048576: true; the input reads as it did. -/
def permuteShufflesUptoRow : OpenClaim := { program := "ytpfaenikcpplfaa", sum := "6c950227afa5d2d9876d6f0e1e47811867108c9b33e357513c3f965a432c1e4b", func := "carom/caromlaw06.PermuteShuffles", spec := "permuteShuffles", apart := false, narrowed := true }
def PermuteShufflesUptoSaid : Prop := permuteShufflesUptoRow.holds Try.pinned (OpenSpec.upto permuteShufflesSpec)

/-- 'caromlaw06.PermuteNextIntn', WHERE WHAT IT READS IS OF BULK AT MOST 1048576: true; the input reads as it did. -/
def permuteNextIntnUptoRow : OpenClaim := { program := "ytpfaenikcpplfaa", sum := "6c950227afa5d2d9876d6f0e1e47811867108c9b33e357513c3f965a432c1e4b", func := "carom/caromlaw06.PermuteNextIntn", spec := "permuteNextIntn", apart := false, narrowed := true }
def PermuteNextIntnUptoSaid : Prop := permuteNextIntnUptoRow.holds Try.pinned (OpenSpec.upto permuteNextIntnSpec)

/-- 'caromlaw06.PermuteOperations', WHERE WHAT IT READS IS OF BULK AT MOST 1048576: true; the input reads as it did. -/
def permuteOperationsUptoRow : OpenClaim := { program := "ytpfaenikcpplfaa", sum := "6c950227afa5d2d9876d6f0e1e47811867108c9b33e357513c3f965a432c1e4b", func := "carom/caromlaw06.PermuteOperations", spec := "permuteOperations", apart := false, narrowed := true }
def PermuteOperationsUptoSaid : Prop := permuteOperationsUptoRow.holds Try.pinned (OpenSpec.upto permuteOperationsSpec)

/-- 'caromlaw06.PermuteInverseRestores', WHERE WHAT IT READS IS OF BULK AT MOST 1048576: true; the input reads as it did. -/
def permuteInverseRestoresUptoRow : OpenClaim := { program := "ytpfaenikcpplfaa", sum := "6c950227afa5d2d9876d6f0e1e47811867108c9b33e357513c3f965a432c1e4b", func := "carom/caromlaw06.PermuteInverseRestores", spec := "permuteInverseRestores", apart := false, narrowed := true }
def PermuteInverseRestoresUptoSaid : Prop := permuteInverseRestoresUptoRow.holds Try.pinned (OpenSpec.upto permuteInverseRestoresSpec)

/-- 'caromlaw06.PermuteComposeApply', WHERE WHAT IT READS IS OF BULK AT MOST 1048576: true; the input reads as it did. -/
def permuteComposeApplyUptoRow : OpenClaim := { program := "ytpfaenikcpplfaa", sum := "6c950227afa5d2d9876d6f0e1e47811867108c9b33e357513c3f965a432c1e4b", func := "carom/caromlaw06.PermuteComposeApply", spec := "permuteComposeApply", apart := false, narrowed := true }
def PermuteComposeApplyUptoSaid : Prop := permuteComposeApplyUptoRow.holds Try.pinned (OpenSpec.upto permuteComposeApplySpec)

end Rows
end Go.Proofs.Ytpfaenikcpplfaa
