/-
  No cell of these rows narrows 'for every input' (looked for: loops, veiled, ifaces, maps, wideKeys, modest, calm, conditions, laid).
  DERIVED. THE GIVEN ROWS OF THIS SEAT. 6 by the template 'for every input the law returns true; each argument reads behind the call as it read before'; 0 by the template 'total and deterministic' (their statements: YtdobgdmehdgmfaaTotals.lean).
  GIVEN WITH THE SEED: the statements are not yours to turn. If you find one false, say at which input.
  Laid BY PROGRAM, IN A SANDBOX (cutbox-rows.mjs): the forced cells as the released guide's own fill.sh prints them over the translation f5742573eedc12b4… (all of the seat's roots in one cut). By AI agents, Wed Nov 11 2026. No macro, syntax, notation, axiom, sorry.
-/
import Derived.Test.YtdobgdmehdgmfaaChecked
import GoSem.Claim
import GoSem.ClaimJoined
import GoSem.ClaimMapViews
import Derived.JoinedTies
import Derived.KernelRfl
namespace Go.Proofs.Ytdobgdmehdgmfaa
/- THE CELL 'sum', in the pinned program and in every row, IS THE sha256 OF THE DUMP (.gsa) THAT YtdobgdmehdgmfaaProg.lean LOADS. Nothing in Lean hashes anything: it is a label: what it is worth is what the hold of that sum in a sandbox is worth. -/
noncomputable def Try.pinned : Pinned := { name := "ytdobgdmehdgmfaa", sum := "f5742573eedc12b48c9a6168a82506a71a5e5c0acf177ef50f7aaa585b29dbdb", checked := Try.checked }
namespace Rows
def none {H : Type} : Left H := { results := [], args := [] }

/-- 'caromlaw13.MassDataExact': WHATEVER THE INPUT: true; the input reads as it did. -/
def massDataExactSpec : ChangeSpec := { name := "massDataExact", fn := fun _ => fun
  | [d1, d2] => { results := [.lit (.bool true)], args := [d1, d2] }
  | _ => none }
def massDataExactRow : OpenClaim := { program := "ytdobgdmehdgmfaa", sum := "f5742573eedc12b48c9a6168a82506a71a5e5c0acf177ef50f7aaa585b29dbdb", func := "carom/caromlaw13.MassDataExact", spec := "massDataExact", unfollowed := true, recurses := true, apart := false }
def MassDataExactSaid : Prop := massDataExactRow.holds Try.pinned (OpenSpec.ofChange massDataExactSpec)

/-- ITS FALSE NEIGHBOUR: 'it returns false'. Refute it at one input. -/
def massDataExactWrong : ChangeSpec := { name := "massDataExact", fn := fun _ => fun
  | [d1, d2] => { results := [.lit (.bool false)], args := [d1, d2] }
  | _ => none }
def MassDataExactWrongFalsely : Prop := massDataExactRow.holds Try.pinned (OpenSpec.ofChange massDataExactWrong)

/-- 'caromlaw13.MassDataInverse': WHATEVER THE INPUT: true; the input reads as it did. -/
def massDataInverseSpec : ChangeSpec := { name := "massDataInverse", fn := fun _ => fun
  | [d1, d2, d3] => { results := [.lit (.bool true)], args := [d1, d2, d3] }
  | _ => none }
def massDataInverseRow : OpenClaim := { program := "ytdobgdmehdgmfaa", sum := "f5742573eedc12b48c9a6168a82506a71a5e5c0acf177ef50f7aaa585b29dbdb", func := "carom/caromlaw13.MassDataInverse", spec := "massDataInverse", unfollowed := true, recurses := true, apart := false }
def MassDataInverseSaid : Prop := massDataInverseRow.holds Try.pinned (OpenSpec.ofChange massDataInverseSpec)

/-- ITS FALSE NEIGHBOUR: 'it returns false'. Refute it at one input. -/
def massDataInverseWrong : ChangeSpec := { name := "massDataInverse", fn := fun _ => fun
  | [d1, d2, d3] => { results := [.lit (.bool false)], args := [d1, d2, d3] }
  | _ => none }
def MassDataInverseWrongFalsely : Prop := massDataInverseRow.holds Try.pinned (OpenSpec.ofChange massDataInverseWrong)

/-- 'caromlaw13.MassDataDensity': WHATEVER THE INPUT: true; the input reads as it did. -/
def massDataDensitySpec : ChangeSpec := { name := "massDataDensity", fn := fun _ => fun
  | [d1, d2, d3] => { results := [.lit (.bool true)], args := [d1, d2, d3] }
  | _ => none }
def massDataDensityRow : OpenClaim := { program := "ytdobgdmehdgmfaa", sum := "f5742573eedc12b48c9a6168a82506a71a5e5c0acf177ef50f7aaa585b29dbdb", func := "carom/caromlaw13.MassDataDensity", spec := "massDataDensity", unfollowed := true, recurses := true, apart := false }
def MassDataDensitySaid : Prop := massDataDensityRow.holds Try.pinned (OpenSpec.ofChange massDataDensitySpec)

/-- ITS FALSE NEIGHBOUR: 'it returns false'. Refute it at one input. -/
def massDataDensityWrong : ChangeSpec := { name := "massDataDensity", fn := fun _ => fun
  | [d1, d2, d3] => { results := [.lit (.bool false)], args := [d1, d2, d3] }
  | _ => none }
def MassDataDensityWrongFalsely : Prop := massDataDensityRow.holds Try.pinned (OpenSpec.ofChange massDataDensityWrong)

/-- 'caromlaw13.MassDataCombine': WHATEVER THE INPUT: true; the input reads as it did. -/
def massDataCombineSpec : ChangeSpec := { name := "massDataCombine", fn := fun _ => fun
  | [d] => { results := [.lit (.bool true)], args := [d] }
  | _ => none }
def massDataCombineRow : OpenClaim := { program := "ytdobgdmehdgmfaa", sum := "f5742573eedc12b48c9a6168a82506a71a5e5c0acf177ef50f7aaa585b29dbdb", func := "carom/caromlaw13.MassDataCombine", spec := "massDataCombine", unfollowed := true, recurses := true, apart := false }
def MassDataCombineSaid : Prop := massDataCombineRow.holds Try.pinned (OpenSpec.ofChange massDataCombineSpec)

/-- ITS FALSE NEIGHBOUR: 'it returns false'. Refute it at one input. -/
def massDataCombineWrong : ChangeSpec := { name := "massDataCombine", fn := fun _ => fun
  | [d] => { results := [.lit (.bool false)], args := [d] }
  | _ => none }
def MassDataCombineWrongFalsely : Prop := massDataCombineRow.holds Try.pinned (OpenSpec.ofChange massDataCombineWrong)

/-- 'caromlaw13.MassDataLowerBound': WHATEVER THE INPUT: true; the input reads as it did. -/
def massDataLowerBoundSpec : ChangeSpec := { name := "massDataLowerBound", fn := fun _ => fun
  | [d1, d2] => { results := [.lit (.bool true)], args := [d1, d2] }
  | _ => none }
def massDataLowerBoundRow : OpenClaim := { program := "ytdobgdmehdgmfaa", sum := "f5742573eedc12b48c9a6168a82506a71a5e5c0acf177ef50f7aaa585b29dbdb", func := "carom/caromlaw13.MassDataLowerBound", spec := "massDataLowerBound", unfollowed := true, recurses := true, apart := false }
def MassDataLowerBoundSaid : Prop := massDataLowerBoundRow.holds Try.pinned (OpenSpec.ofChange massDataLowerBoundSpec)

/-- ITS FALSE NEIGHBOUR: 'it returns false'. Refute it at one input. -/
def massDataLowerBoundWrong : ChangeSpec := { name := "massDataLowerBound", fn := fun _ => fun
  | [d1, d2] => { results := [.lit (.bool false)], args := [d1, d2] }
  | _ => none }
def MassDataLowerBoundWrongFalsely : Prop := massDataLowerBoundRow.holds Try.pinned (OpenSpec.ofChange massDataLowerBoundWrong)

/-- 'caromlaw13.MassDataOfFixtures': WHATEVER THE INPUT: true; the input reads as it did. -/
def massDataOfFixturesSpec : ChangeSpec := { name := "massDataOfFixtures", fn := fun _ => fun
  | [d1, d2, d3] => { results := [.lit (.bool true)], args := [d1, d2, d3] }
  | _ => none }
def massDataOfFixturesRow : OpenClaim := { program := "ytdobgdmehdgmfaa", sum := "f5742573eedc12b48c9a6168a82506a71a5e5c0acf177ef50f7aaa585b29dbdb", func := "carom/caromlaw13.MassDataOfFixtures", spec := "massDataOfFixtures", unfollowed := true, recurses := true, apart := false }
def MassDataOfFixturesSaid : Prop := massDataOfFixturesRow.holds Try.pinned (OpenSpec.ofChange massDataOfFixturesSpec)

/-- ITS FALSE NEIGHBOUR: 'it returns false'. Refute it at one input. -/
def massDataOfFixturesWrong : ChangeSpec := { name := "massDataOfFixtures", fn := fun _ => fun
  | [d1, d2, d3] => { results := [.lit (.bool false)], args := [d1, d2, d3] }
  | _ => none }
def MassDataOfFixturesWrongFalsely : Prop := massDataOfFixturesRow.holds Try.pinned (OpenSpec.ofChange massDataOfFixturesWrong)

/- THE SECOND FORM. 'bulk': how many values and letters a reading holds, each counted each time it is reached (what is shared counts as often as it is met; a slice's spare places count too). A statement '..UptoSaid' is the law's where the arguments, and the package variables that the reading takes, are together of bulk at most 1048576: NARROWER than '..Said'. Prove '..Said' where nothing that the law and all that it calls make is longer than what came in: it says more and counts as full. Else prove '..UptoSaid'. A law counts once. -/
mutual
def uptoBulk {H : Type} : DataW H → Nat
  | .lit (.string bytes) => bytes.length + 1
  | .lit _ => 1
  | .nil => 1
  | .ptr d => uptoBulk d + 1
  | .slice elems spare => uptoBulkAll elems + uptoBulkAll spare + 1
  | .agg parts => uptoBulkAll parts + 1
  | .iface _ d => uptoBulk d + 1
  | .map entries => uptoBulkEntries entries + 1
  | .held _ => 1
def uptoBulkAll {H : Type} : List (DataW H) → Nat
  | [] => 0
  | d :: r => uptoBulk d + uptoBulkAll r
def uptoBulkEntries {H : Type} : List (Lit × DataW H) → Nat
  | [] => 0
  | x :: r => uptoBulkEntry x + uptoBulkEntries r
def uptoBulkEntry {H : Type} : Lit × DataW H → Nat
  | (.string bytes, d) => bytes.length + uptoBulk d + 1
  | (_, d) => uptoBulk d + 1
 end
def uptoSmall : (H : Type) → List (DataW H) → Bool := fun _ ds => decide (uptoBulkAll ds ≤ 1048576)
def OpenSpec.upto (s : _root_.Go.ChangeSpec) : _root_.Go.OpenSpec := { _root_.Go.OpenSpec.ofChange s with cond := some uptoSmall }

/-- 'caromlaw13.MassDataExact', WHERE WHAT IT READS IS OF BULK AT MOST 1048576: true; the input reads as it did. -/
def massDataExactUptoRow : OpenClaim := { program := "ytdobgdmehdgmfaa", sum := "f5742573eedc12b48c9a6168a82506a71a5e5c0acf177ef50f7aaa585b29dbdb", func := "carom/caromlaw13.MassDataExact", spec := "massDataExact", unfollowed := true, recurses := true, apart := false, narrowed := true }
def MassDataExactUptoSaid : Prop := massDataExactUptoRow.holds Try.pinned (OpenSpec.upto massDataExactSpec)

/-- 'caromlaw13.MassDataInverse', WHERE WHAT IT READS IS OF BULK AT MOST 1048576: true; the input reads as it did. -/
def massDataInverseUptoRow : OpenClaim := { program := "ytdobgdmehdgmfaa", sum := "f5742573eedc12b48c9a6168a82506a71a5e5c0acf177ef50f7aaa585b29dbdb", func := "carom/caromlaw13.MassDataInverse", spec := "massDataInverse", unfollowed := true, recurses := true, apart := false, narrowed := true }
def MassDataInverseUptoSaid : Prop := massDataInverseUptoRow.holds Try.pinned (OpenSpec.upto massDataInverseSpec)

/-- 'caromlaw13.MassDataDensity', WHERE WHAT IT READS IS OF BULK AT MOST 1048576: true; the input reads as it did. -/
def massDataDensityUptoRow : OpenClaim := { program := "ytdobgdmehdgmfaa", sum := "f5742573eedc12b48c9a6168a82506a71a5e5c0acf177ef50f7aaa585b29dbdb", func := "carom/caromlaw13.MassDataDensity", spec := "massDataDensity", unfollowed := true, recurses := true, apart := false, narrowed := true }
def MassDataDensityUptoSaid : Prop := massDataDensityUptoRow.holds Try.pinned (OpenSpec.upto massDataDensitySpec)

/-- 'caromlaw13.MassDataCombine', WHERE WHAT IT READS IS OF BULK AT MOST 1048576: true; the input reads as it did. -/
def massDataCombineUptoRow : OpenClaim := { program := "ytdobgdmehdgmfaa", sum := "f5742573eedc12b48c9a6168a82506a71a5e5c0acf177ef50f7aaa585b29dbdb", func := "carom/caromlaw13.MassDataCombine", spec := "massDataCombine", unfollowed := true, recurses := true, apart := false, narrowed := true }
def MassDataCombineUptoSaid : Prop := massDataCombineUptoRow.holds Try.pinned (OpenSpec.upto massDataCombineSpec)

/-- 'caromlaw13.MassDataLowerBound', WHERE WHAT IT READS IS OF BULK AT MOST 1048576: true; the input reads as it did. -/
def massDataLowerBoundUptoRow : OpenClaim := { program := "ytdobgdmehdgmfaa", sum := "f5742573eedc12b48c9a6168a82506a71a5e5c0acf177ef50f7aaa585b29dbdb", func := "carom/caromlaw13.MassDataLowerBound", spec := "massDataLowerBound", unfollowed := true, recurses := true, apart := false, narrowed := true }
def MassDataLowerBoundUptoSaid : Prop := massDataLowerBoundUptoRow.holds Try.pinned (OpenSpec.upto massDataLowerBoundSpec)

/-- 'caromlaw13.MassDataOfFixtures', WHERE WHAT IT READS IS OF BULK AT MOST 1048576: true; the input reads as it did. -/
def massDataOfFixturesUptoRow : OpenClaim := { program := "ytdobgdmehdgmfaa", sum := "f5742573eedc12b48c9a6168a82506a71a5e5c0acf177ef50f7aaa585b29dbdb", func := "carom/caromlaw13.MassDataOfFixtures", spec := "massDataOfFixtures", unfollowed := true, recurses := true, apart := false, narrowed := true }
def MassDataOfFixturesUptoSaid : Prop := massDataOfFixturesUptoRow.holds Try.pinned (OpenSpec.upto massDataOfFixturesSpec)

end Rows
end Go.Proofs.Ytdobgdmehdgmfaa
