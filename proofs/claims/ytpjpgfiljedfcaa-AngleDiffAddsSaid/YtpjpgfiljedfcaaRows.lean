/-
  No cell of these rows narrows 'for every input' (looked for: loops, veiled, ifaces, maps, wideKeys, modest, calm, conditions, laid).
  DERIVED. THE GIVEN ROWS OF THIS SEAT. 6 by the template 'for every input the law returns true; each argument reads behind the call as it read before'; 0 by the template 'total and deterministic' (their statements: YtpjpgfiljedfcaaTotals.lean).
  GIVEN WITH THE SEED: the statements are not yours to turn. If you find one false, say at which input.
  Laid BY PROGRAM, IN A SANDBOX (cutbox-rows.mjs): the forced cells as the released guide's own fill.sh prints them over the translation be90de35bd6a0113… (all of the seat's roots in one cut). By AI agents, Wed Nov 11 2026. No macro, syntax, notation, axiom, sorry.
-/
import Derived.Test.YtpjpgfiljedfcaaChecked
import GoSem.Claim
import GoSem.ClaimJoined
import GoSem.ClaimMapViews
import Derived.JoinedTies
import Derived.KernelRfl
namespace Go.Proofs.Ytpjpgfiljedfcaa
/- THE CELL 'sum', in the pinned program and in every row, IS THE sha256 OF THE DUMP (.gsa) THAT YtpjpgfiljedfcaaProg.lean LOADS. Nothing in Lean hashes anything: it is a label: what it is worth is what the hold of that sum in a sandbox is worth. -/
noncomputable def Try.pinned : Pinned := { name := "ytpjpgfiljedfcaa", sum := "be90de35bd6a0113a359485e1605072de64356ef86660535c848db664524ccad", checked := Try.checked }
namespace Rows
def none {H : Type} : Left H := { results := [], args := [] }

/-- 'caromlaw02.AngleSinCos': WHATEVER THE INPUT: true; the input reads as it did. -/
def angleSinCosSpec : ChangeSpec := { name := "angleSinCos", fn := fun _ => fun
  | [d1, d2] => { results := [.lit (.bool true)], args := [d1, d2] }
  | _ => none }
def angleSinCosRow : OpenClaim := { program := "ytpjpgfiljedfcaa", sum := "be90de35bd6a0113a359485e1605072de64356ef86660535c848db664524ccad", func := "carom/caromlaw02.AngleSinCos", spec := "angleSinCos", apart := false }
def AngleSinCosSaid : Prop := angleSinCosRow.holds Try.pinned (OpenSpec.ofChange angleSinCosSpec)

/-- ITS FALSE NEIGHBOUR: 'it returns false'. Refute it at one input. -/
def angleSinCosWrong : ChangeSpec := { name := "angleSinCos", fn := fun _ => fun
  | [d1, d2] => { results := [.lit (.bool false)], args := [d1, d2] }
  | _ => none }
def AngleSinCosWrongFalsely : Prop := angleSinCosRow.holds Try.pinned (OpenSpec.ofChange angleSinCosWrong)

/-- 'caromlaw02.AngleNormalizeRange': WHATEVER THE INPUT: true; the input reads as it did. -/
def angleNormalizeRangeSpec : ChangeSpec := { name := "angleNormalizeRange", fn := fun _ => fun
  | [d] => { results := [.lit (.bool true)], args := [d] }
  | _ => none }
def angleNormalizeRangeRow : OpenClaim := { program := "ytpjpgfiljedfcaa", sum := "be90de35bd6a0113a359485e1605072de64356ef86660535c848db664524ccad", func := "carom/caromlaw02.AngleNormalizeRange", spec := "angleNormalizeRange", apart := false }
def AngleNormalizeRangeSaid : Prop := angleNormalizeRangeRow.holds Try.pinned (OpenSpec.ofChange angleNormalizeRangeSpec)

/-- ITS FALSE NEIGHBOUR: 'it returns false'. Refute it at one input. -/
def angleNormalizeRangeWrong : ChangeSpec := { name := "angleNormalizeRange", fn := fun _ => fun
  | [d] => { results := [.lit (.bool false)], args := [d] }
  | _ => none }
def AngleNormalizeRangeWrongFalsely : Prop := angleNormalizeRangeRow.holds Try.pinned (OpenSpec.ofChange angleNormalizeRangeWrong)

/-- 'caromlaw02.AngleDiffAdds': WHATEVER THE INPUT: true; the input reads as it did. -/
def angleDiffAddsSpec : ChangeSpec := { name := "angleDiffAdds", fn := fun _ => fun
  | [d1, d2] => { results := [.lit (.bool true)], args := [d1, d2] }
  | _ => none }
def angleDiffAddsRow : OpenClaim := { program := "ytpjpgfiljedfcaa", sum := "be90de35bd6a0113a359485e1605072de64356ef86660535c848db664524ccad", func := "carom/caromlaw02.AngleDiffAdds", spec := "angleDiffAdds", apart := false }
def AngleDiffAddsSaid : Prop := angleDiffAddsRow.holds Try.pinned (OpenSpec.ofChange angleDiffAddsSpec)

/-- ITS FALSE NEIGHBOUR: 'it returns false'. Refute it at one input. -/
def angleDiffAddsWrong : ChangeSpec := { name := "angleDiffAdds", fn := fun _ => fun
  | [d1, d2] => { results := [.lit (.bool false)], args := [d1, d2] }
  | _ => none }
def AngleDiffAddsWrongFalsely : Prop := angleDiffAddsRow.holds Try.pinned (OpenSpec.ofChange angleDiffAddsWrong)

/-- 'caromlaw02.AngleSinOdd': WHATEVER THE INPUT: true; the input reads as it did. -/
def angleSinOddSpec : ChangeSpec := { name := "angleSinOdd", fn := fun _ => fun
  | [d] => { results := [.lit (.bool true)], args := [d] }
  | _ => none }
def angleSinOddRow : OpenClaim := { program := "ytpjpgfiljedfcaa", sum := "be90de35bd6a0113a359485e1605072de64356ef86660535c848db664524ccad", func := "carom/caromlaw02.AngleSinOdd", spec := "angleSinOdd", apart := false }
def AngleSinOddSaid : Prop := angleSinOddRow.holds Try.pinned (OpenSpec.ofChange angleSinOddSpec)

/-- ITS FALSE NEIGHBOUR: 'it returns false'. Refute it at one input. -/
def angleSinOddWrong : ChangeSpec := { name := "angleSinOdd", fn := fun _ => fun
  | [d] => { results := [.lit (.bool false)], args := [d] }
  | _ => none }
def AngleSinOddWrongFalsely : Prop := angleSinOddRow.holds Try.pinned (OpenSpec.ofChange angleSinOddWrong)

/-- 'caromlaw02.AnglePeriodic': WHATEVER THE INPUT: true; the input reads as it did. -/
def anglePeriodicSpec : ChangeSpec := { name := "anglePeriodic", fn := fun _ => fun
  | [d1, d2] => { results := [.lit (.bool true)], args := [d1, d2] }
  | _ => none }
def anglePeriodicRow : OpenClaim := { program := "ytpjpgfiljedfcaa", sum := "be90de35bd6a0113a359485e1605072de64356ef86660535c848db664524ccad", func := "carom/caromlaw02.AnglePeriodic", spec := "anglePeriodic", apart := false }
def AnglePeriodicSaid : Prop := anglePeriodicRow.holds Try.pinned (OpenSpec.ofChange anglePeriodicSpec)

/-- ITS FALSE NEIGHBOUR: 'it returns false'. Refute it at one input. -/
def anglePeriodicWrong : ChangeSpec := { name := "anglePeriodic", fn := fun _ => fun
  | [d1, d2] => { results := [.lit (.bool false)], args := [d1, d2] }
  | _ => none }
def AnglePeriodicWrongFalsely : Prop := anglePeriodicRow.holds Try.pinned (OpenSpec.ofChange anglePeriodicWrong)

/-- 'caromlaw02.AngleRotUnit': WHATEVER THE INPUT: true; the input reads as it did. -/
def angleRotUnitSpec : ChangeSpec := { name := "angleRotUnit", fn := fun _ => fun
  | [d] => { results := [.lit (.bool true)], args := [d] }
  | _ => none }
def angleRotUnitRow : OpenClaim := { program := "ytpjpgfiljedfcaa", sum := "be90de35bd6a0113a359485e1605072de64356ef86660535c848db664524ccad", func := "carom/caromlaw02.AngleRotUnit", spec := "angleRotUnit", apart := false }
def AngleRotUnitSaid : Prop := angleRotUnitRow.holds Try.pinned (OpenSpec.ofChange angleRotUnitSpec)

/-- ITS FALSE NEIGHBOUR: 'it returns false'. Refute it at one input. -/
def angleRotUnitWrong : ChangeSpec := { name := "angleRotUnit", fn := fun _ => fun
  | [d] => { results := [.lit (.bool false)], args := [d] }
  | _ => none }
def AngleRotUnitWrongFalsely : Prop := angleRotUnitRow.holds Try.pinned (OpenSpec.ofChange angleRotUnitWrong)

/- THE SECOND FORM. 'bulk': how many values and letters a reading holds, each counted each time it is reached (what is shared counts as often as it is met; a slice's spare places count too). A statement '..UptoSaid' is the law's where the arguments, and the package variables that the reading takes, are together of bulk at most 1048576: NARROWER than '..Said'. Prove '..Said' where nothing that the law and all that it calls make is longer than what came in: it says more and counts as full. Else prove '..UptoSaid'. A law counts once. -/
mutual
def uptoBulk {H : Type} : DataW H → Nat
  | .lit (.string bytes) => bytes.length + 1
  | .lit _ => 1
  | .nil => 1
  | .ptr d => uptoBulk d + 1
  | .slice elems spare => uptoBulkAll elems + uptoBulkAll spare + 1
  | .agg parts => uptoBulkAll parts + 1
  | .iface _ d => uptoBulk d + 1
  | .map entries => uptoBulkEntries entries + 1
  | .held _ => 1
def uptoBulkAll {H : Type} : List (DataW H) → Nat
  | [] => 0
  | d :: r => uptoBulk d + uptoBulkAll r
def uptoBulkEntries {H : Type} : List (Lit × DataW H) → Nat
  | [] => 0
  | x :: r => uptoBulkEntry x + uptoBulkEntries r
def uptoBulkEntry {H : Type} : Lit × DataW H → Nat
  | (.string bytes, d) => bytes.length + uptoBulk d + 1
  | (_, d) => uptoBulk d + 1
 end
def uptoSmall : (H : Type) → List (DataW H) → Bool := fun _ ds => decide (uptoBulkAll ds ≤ 1048576)
def OpenSpec.upto (s : _root_.Go.ChangeSpec) : _root_.Go.OpenSpec := { _root_.Go.OpenSpec.ofChange s with cond := some uptoSmall }

/-- 'caromlaw02.AngleSinCos', WHERE WHAT IT READS IS OF BULK AT MOST 1048576: true; the input reads as it did. -/
def angleSinCosUptoRow : OpenClaim := { program := "ytpjpgfiljedfcaa", sum := "be90de35bd6a0113a359485e1605072de64356ef86660535c848db664524ccad", func := "carom/caromlaw02.AngleSinCos", spec := "angleSinCos", apart := false, narrowed := true }
def AngleSinCosUptoSaid : Prop := angleSinCosUptoRow.holds Try.pinned (OpenSpec.upto angleSinCosSpec)

/-- 'caromlaw02.AngleNormalizeRange', WHERE WHAT IT READS IS OF BULK AT MOST 1048576: true; the input reads as it did. -/
def angleNormalizeRangeUptoRow : OpenClaim := { program := "ytpjpgfiljedfcaa", sum := "be90de35bd6a0113a359485e1605072de64356ef86660535c848db664524ccad", func := "carom/caromlaw02.AngleNormalizeRange", spec := "angleNormalizeRange", apart := false, narrowed := true }
def AngleNormalizeRangeUptoSaid : Prop := angleNormalizeRangeUptoRow.holds Try.pinned (OpenSpec.upto angleNormalizeRangeSpec)

/-- 'caromlaw02.AngleDiffAdds', WHERE WHAT IT READS IS OF BULK AT MOST 1048576: true; the input reads as it did. -/
def angleDiffAddsUptoRow : OpenClaim := { program := "ytpjpgfiljedfcaa", sum := "be90de35bd6a0113a359485e1605072de64356ef86660535c848db664524ccad", func := "carom/caromlaw02.AngleDiffAdds", spec := "angleDiffAdds", apart := false, narrowed := true }
def AngleDiffAddsUptoSaid : Prop := angleDiffAddsUptoRow.holds Try.pinned (OpenSpec.upto angleDiffAddsSpec)

/-- 'caromlaw02.AngleSinOdd', WHERE WHAT IT READS IS OF BULK AT MOST 1048576: true; the input reads as it did. -/
def angleSinOddUptoRow : OpenClaim := { program := "ytpjpgfiljedfcaa", sum := "be90de35bd6a0113a359485e1605072de64356ef86660535c848db664524ccad", func := "carom/caromlaw02.AngleSinOdd", spec := "angleSinOdd", apart := false, narrowed := true }
def AngleSinOddUptoSaid : Prop := angleSinOddUptoRow.holds Try.pinned (OpenSpec.upto angleSinOddSpec)

/-- 'caromlaw02.AnglePeriodic', WHERE WHAT IT READS IS OF BULK AT MOST 1048576: true; the input reads as it did. -/
def anglePeriodicUptoRow : OpenClaim := { program := "ytpjpgfiljedfcaa", sum := "be90de35bd6a0113a359485e1605072de64356ef86660535c848db664524ccad", func := "carom/caromlaw02.AnglePeriodic", spec := "anglePeriodic", apart := false, narrowed := true }
def AnglePeriodicUptoSaid : Prop := anglePeriodicUptoRow.holds Try.pinned (OpenSpec.upto anglePeriodicSpec)

/-- 'caromlaw02.AngleRotUnit', WHERE WHAT IT READS IS OF BULK AT MOST 1048576: true; the input reads as it did. -/
def angleRotUnitUptoRow : OpenClaim := { program := "ytpjpgfiljedfcaa", sum := "be90de35bd6a0113a359485e1605072de64356ef86660535c848db664524ccad", func := "carom/caromlaw02.AngleRotUnit", spec := "angleRotUnit", apart := false, narrowed := true }
def AngleRotUnitUptoSaid : Prop := angleRotUnitUptoRow.holds Try.pinned (OpenSpec.upto angleRotUnitSpec)

end Rows
end Go.Proofs.Ytpjpgfiljedfcaa
