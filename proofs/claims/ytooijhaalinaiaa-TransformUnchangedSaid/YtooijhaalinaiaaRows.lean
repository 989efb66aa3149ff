/-
  No cell of these rows narrows 'for every input' (looked for: loops, veiled, ifaces, maps, wideKeys, modest, calm, conditions, laid).
  DERIVED. THE GIVEN ROWS OF THIS SEAT. 6 by the template 'for every input the law returns true; each argument reads behind the call as it read before'; 0 by the template 'total and deterministic' (their statements: YtooijhaalinaiaaTotals.lean).
  GIVEN WITH THE SEED: the statements are not yours to turn. If you find one false, say at which input.
  Laid BY PROGRAM, IN A SANDBOX (cutbox-rows.mjs): the forced cells as the released guide's own fill.sh prints them over the translation c9ffbf1958f780d1… (all of the seat's roots in one cut). By AI agents, Wed Nov 11 2026. No macro, syntax, notation, axiom, sorry.
-/
import Derived.Test.YtooijhaalinaiaaChecked
import GoSem.Claim
import GoSem.ClaimJoined
import GoSem.ClaimMapViews
import Derived.JoinedTies
import Derived.KernelRfl
namespace Go.Proofs.Ytooijhaalinaiaa
/- THE CELL 'sum', in the pinned program and in every row, IS THE sha256 OF THE DUMP (.gsa) THAT YtooijhaalinaiaaProg.lean LOADS. Nothing in Lean hashes anything: it is a label: what it is worth is what the hold of that sum in a sandbox is worth. -/
noncomputable def Try.pinned : Pinned := { name := "ytooijhaalinaiaa", sum := "c9ffbf1958f780d12270e0b41a9da7dda05649665542973863c1ac421ecd0b3a", checked := Try.checked }
namespace Rows
def none {H : Type} : Left H := { results := [], args := [] }

/-- 'caromlaw04.TransformApplies': WHATEVER THE INPUT: true; the input reads as it did. -/
def transformAppliesSpec : ChangeSpec := { name := "transformApplies", fn := fun _ => fun
  | [d1, d2] => { results := [.lit (.bool true)], args := [d1, d2] }
  | _ => none }
def transformAppliesRow : OpenClaim := { program := "ytooijhaalinaiaa", sum := "c9ffbf1958f780d12270e0b41a9da7dda05649665542973863c1ac421ecd0b3a", func := "carom/caromlaw04.TransformApplies", spec := "transformApplies", apart := false }
def TransformAppliesSaid : Prop := transformAppliesRow.holds Try.pinned (OpenSpec.ofChange transformAppliesSpec)

/-- ITS FALSE NEIGHBOUR: 'it returns false'. Refute it at one input. -/
def transformAppliesWrong : ChangeSpec := { name := "transformApplies", fn := fun _ => fun
  | [d1, d2] => { results := [.lit (.bool false)], args := [d1, d2] }
  | _ => none }
def TransformAppliesWrongFalsely : Prop := transformAppliesRow.holds Try.pinned (OpenSpec.ofChange transformAppliesWrong)

/-- 'caromlaw04.TransformTranslation': WHATEVER THE INPUT: true; the input reads as it did. -/
def transformTranslationSpec : ChangeSpec := { name := "transformTranslation", fn := fun _ => fun
  | [d1, d2] => { results := [.lit (.bool true)], args := [d1, d2] }
  | _ => none }
def transformTranslationRow : OpenClaim := { program := "ytooijhaalinaiaa", sum := "c9ffbf1958f780d12270e0b41a9da7dda05649665542973863c1ac421ecd0b3a", func := "carom/caromlaw04.TransformTranslation", spec := "transformTranslation", apart := false }
def TransformTranslationSaid : Prop := transformTranslationRow.holds Try.pinned (OpenSpec.ofChange transformTranslationSpec)

/-- ITS FALSE NEIGHBOUR: 'it returns false'. Refute it at one input. -/
def transformTranslationWrong : ChangeSpec := { name := "transformTranslation", fn := fun _ => fun
  | [d1, d2] => { results := [.lit (.bool false)], args := [d1, d2] }
  | _ => none }
def TransformTranslationWrongFalsely : Prop := transformTranslationRow.holds Try.pinned (OpenSpec.ofChange transformTranslationWrong)

/-- 'caromlaw04.TransformIntegration': WHATEVER THE INPUT: true; the input reads as it did. -/
def transformIntegrationSpec : ChangeSpec := { name := "transformIntegration", fn := fun _ => fun
  | [d1, d2, d3, d4, d5] => { results := [.lit (.bool true)], args := [d1, d2, d3, d4, d5] }
  | _ => none }
def transformIntegrationRow : OpenClaim := { program := "ytooijhaalinaiaa", sum := "c9ffbf1958f780d12270e0b41a9da7dda05649665542973863c1ac421ecd0b3a", func := "carom/caromlaw04.TransformIntegration", spec := "transformIntegration", apart := false }
def TransformIntegrationSaid : Prop := transformIntegrationRow.holds Try.pinned (OpenSpec.ofChange transformIntegrationSpec)

/-- ITS FALSE NEIGHBOUR: 'it returns false'. Refute it at one input. -/
def transformIntegrationWrong : ChangeSpec := { name := "transformIntegration", fn := fun _ => fun
  | [d1, d2, d3, d4, d5] => { results := [.lit (.bool false)], args := [d1, d2, d3, d4, d5] }
  | _ => none }
def TransformIntegrationWrongFalsely : Prop := transformIntegrationRow.holds Try.pinned (OpenSpec.ofChange transformIntegrationWrong)

/-- 'caromlaw04.TransformComposition': WHATEVER THE INPUT: true; the input reads as it did. -/
def transformCompositionSpec : ChangeSpec := { name := "transformComposition", fn := fun _ => fun
  | [d1, d2, d3] => { results := [.lit (.bool true)], args := [d1, d2, d3] }
  | _ => none }
def transformCompositionRow : OpenClaim := { program := "ytooijhaalinaiaa", sum := "c9ffbf1958f780d12270e0b41a9da7dda05649665542973863c1ac421ecd0b3a", func := "carom/caromlaw04.TransformComposition", spec := "transformComposition", apart := false }
def TransformCompositionSaid : Prop := transformCompositionRow.holds Try.pinned (OpenSpec.ofChange transformCompositionSpec)

/-- ITS FALSE NEIGHBOUR: 'it returns false'. Refute it at one input. -/
def transformCompositionWrong : ChangeSpec := { name := "transformComposition", fn := fun _ => fun
  | [d1, d2, d3] => { results := [.lit (.bool false)], args := [d1, d2, d3] }
  | _ => none }
def TransformCompositionWrongFalsely : Prop := transformCompositionRow.holds Try.pinned (OpenSpec.ofChange transformCompositionWrong)

/-- 'caromlaw04.TransformUnchanged': WHATEVER THE INPUT: true; the input reads as it did. -/
def transformUnchangedSpec : ChangeSpec := { name := "transformUnchanged", fn := fun _ => fun
  | [d1, d2, d3, d4] => { results := [.lit (.bool true)], args := [d1, d2, d3, d4] }
  | _ => none }
def transformUnchangedRow : OpenClaim := { program := "ytooijhaalinaiaa", sum := "c9ffbf1958f780d12270e0b41a9da7dda05649665542973863c1ac421ecd0b3a", func := "carom/caromlaw04.TransformUnchanged", spec := "transformUnchanged", apart := false }
def TransformUnchangedSaid : Prop := transformUnchangedRow.holds Try.pinned (OpenSpec.ofChange transformUnchangedSpec)

/-- ITS FALSE NEIGHBOUR: 'it returns false'. Refute it at one input. -/
def transformUnchangedWrong : ChangeSpec := { name := "transformUnchanged", fn := fun _ => fun
  | [d1, d2, d3, d4] => { results := [.lit (.bool false)], args := [d1, d2, d3, d4] }
  | _ => none }
def TransformUnchangedWrongFalsely : Prop := transformUnchangedRow.holds Try.pinned (OpenSpec.ofChange transformUnchangedWrong)

/-- 'caromlaw04.TransformAngleRange': WHATEVER THE INPUT: true; the input reads as it did. -/
def transformAngleRangeSpec : ChangeSpec := { name := "transformAngleRange", fn := fun _ => fun
  | [d1, d2, d3, d4] => { results := [.lit (.bool true)], args := [d1, d2, d3, d4] }
  | _ => none }
def transformAngleRangeRow : OpenClaim := { program := "ytooijhaalinaiaa", sum := "c9ffbf1958f780d12270e0b41a9da7dda05649665542973863c1ac421ecd0b3a", func := "carom/caromlaw04.TransformAngleRange", spec := "transformAngleRange", apart := false }
def TransformAngleRangeSaid : Prop := transformAngleRangeRow.holds Try.pinned (OpenSpec.ofChange transformAngleRangeSpec)

/-- ITS FALSE NEIGHBOUR: 'it returns false'. Refute it at one input. -/
def transformAngleRangeWrong : ChangeSpec := { name := "transformAngleRange", fn := fun _ => fun
  | [d1, d2, d3, d4] => { results := [.lit (.bool false)], args := [d1, d2, d3, d4] }
  | _ => none }
def TransformAngleRangeWrongFalsely : Prop := transformAngleRangeRow.holds Try.pinned (OpenSpec.ofChange transformAngleRangeWrong)

/- THE SECOND FORM. 'bulk': how many values and letters a reading holds, each counted each time it is reached (what is shared counts as often as it is met; a slice's spare places count too). A statement '..UptoSaid' is the law's where the arguments, and the package variables that the reading takes, are together of bulk at most 1048576: NARROWER than '..Said'. Prove '..Said' where nothing that the law and all that it calls make is longer than what came in: it says more and counts as full. Else prove '..UptoSaid'. A law counts once. -/
mutual
def uptoBulk {H : Type} : DataW H → Nat
  | .lit (.string bytes) => bytes.length + 1
  | .lit _ => 1
  | .nil => 1
  | .ptr d => uptoBulk d + 1
  | .slice elems spare => uptoBulkAll elems + uptoBulkAll spare + 1
  | .agg parts => uptoBulkAll parts + 1
  | .iface _ d => uptoBulk d + 1
  | .map entries => uptoBulkEntries entries + 1
  | .held _ => 1
def uptoBulkAll {H : Type} : List (DataW H) → Nat
  | [] => 0
  | d :: r => uptoBulk d + uptoBulkAll r
def uptoBulkEntries {H : Type} : List (Lit × DataW H) → Nat
  | [] => 0
  | x :: r => uptoBulkEntry x + uptoBulkEntries r
def uptoBulkEntry {H : Type} : Lit × DataW H → Nat
  | (.string bytes, d) => bytes.length + uptoBulk d + 1
  | (_, d) => uptoBulk d + 1
 end
def uptoSmall : (H : Type) → List (DataW H) → Bool := fun _ ds => decide (uptoBulkAll ds ≤ 1048576)
def OpenSpec.upto (s : _root_.Go.ChangeSpec) : _root_.Go.OpenSpec := { _root_.Go.OpenSpec.ofChange s with cond := some uptoSmall }

/-- 'caromlaw04.TransformApplies', WHERE WHAT IT READS IS OF BULK AT MOST 1048576: true; the input reads as it did. -/
def transformAppliesUptoRow : OpenClaim := { program := "ytooijhaalinaiaa", sum := "c9ffbf1958f780d12270e0b41a9da7dda05649665542973863c1ac421ecd0b3a", func := "carom/caromlaw04.TransformApplies", spec := "transformApplies", apart := false, narrowed := true }
def TransformAppliesUptoSaid : Prop := transformAppliesUptoRow.holds Try.pinned (OpenSpec.upto transformAppliesSpec)

/-- 'caromlaw04.TransformTranslation', WHERE WHAT IT READS IS OF BULK AT MOST 1048576: true; the input reads as it did. -/
def transformTranslationUptoRow : OpenClaim := { program := "ytooijhaalinaiaa", sum := "c9ffbf1958f780d12270e0b41a9da7dda05649665542973863c1ac421ecd0b3a", func := "carom/caromlaw04.TransformTranslation", spec := "transformTranslation", apart := false, narrowed := true }
def TransformTranslationUptoSaid : Prop := transformTranslationUptoRow.holds Try.pinned (OpenSpec.upto transformTranslationSpec)

/-- 'caromlaw04.TransformIntegration', WHERE WHAT IT READS IS OF BULK AT MOST 1048576: true; the input reads as it did. -/
def transformIntegrationUptoRow : OpenClaim := { program := "ytooijhaalinaiaa", sum := "c9ffbf1958f780d12270e0b41a9da7dda05649665542973863c1ac421ecd0b3a", func := "carom/caromlaw04.TransformIntegration", spec := "transformIntegration", apart := false, narrowed := true }
def TransformIntegrationUptoSaid : Prop := transformIntegrationUptoRow.holds Try.pinned (OpenSpec.upto transformIntegrationSpec)

/-- 'caromlaw04.TransformComposition', WHERE WHAT IT READS IS OF BULK AT MOST 1048576: true; the input reads as it did. -/
def transformCompositionUptoRow : OpenClaim := { program := "ytooijhaalinaiaa", sum := "c9ffbf1958f780d12270e0b41a9da7dda05649665542973863c1ac421ecd0b3a", func := "carom/caromlaw04.TransformComposition", spec := "transformComposition", apart := false, narrowed := true }
def TransformCompositionUptoSaid : Prop := transformCompositionUptoRow.holds Try.pinned (OpenSpec.upto transformCompositionSpec)

/-- 'caromlaw04.TransformUnchanged', WHERE WHAT IT READS IS OF BULK AT MOST 1048576: true; the input reads as it did. -/
def transformUnchangedUptoRow : OpenClaim := { program := "ytooijhaalinaiaa", sum := "c9ffbf1958f780d12270e0b41a9da7dda05649665542973863c1ac421ecd0b3a", func := "carom/caromlaw04.TransformUnchanged", spec := "transformUnchanged", apart := false, narrowed := true }
def TransformUnchangedUptoSaid : Prop := transformUnchangedUptoRow.holds Try.pinned (OpenSpec.upto transformUnchangedSpec)

/-- 'caromlaw04.TransformAngleRange', WHERE WHAT IT READS IS OF BULK AT MOST 1048576: true; the input reads as it did. -/
def transformAngleRangeUptoRow : OpenClaim := { program := "ytooijhaalinaiaa", sum := "c9ffbf1958f780d12270e0b41a9da7dda05649665542973863c1ac421ecd0b3a", func := "carom/caromlaw04.TransformAngleRange", spec := "transformAngleRange", apart := false, narrowed := true }
def TransformAngleRangeUptoSaid : Prop := transformAngleRangeUptoRow.holds Try.pinned (OpenSpec.upto transformAngleRangeSpec)

end Rows
end Go.Proofs.Ytooijhaalinaiaa
