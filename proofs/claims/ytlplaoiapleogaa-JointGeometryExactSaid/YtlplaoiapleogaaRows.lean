/-
  No cell of these rows narrows 'for every input' (looked for: loops, veiled, ifaces, maps, wideKeys, modest, calm, conditions, laid).
  DERIVED. THE GIVEN ROWS OF THIS SEAT. 6 by the template 'for every input the law returns true; each argument reads behind the call as it read before'; 0 by the template 'total and deterministic' (their statements: YtlplaoiapleogaaTotals.lean).
  GIVEN WITH THE SEED: the statements are not yours to turn. If you find one false, say at which input.
  Laid BY PROGRAM, IN A SANDBOX (cutbox-rows.mjs): the forced cells as the released guide's own fill.sh prints them over the translation 8785d83e02dfcf19… (all of the seat's roots in one cut). By AI agents, Wed Nov 11 2026. No macro, syntax, notation, axiom, sorry.
-/
import Derived.Test.YtlplaoiapleogaaChecked
import GoSem.Claim
import GoSem.ClaimJoined
import GoSem.ClaimMapViews
import Derived.JoinedTies
import Derived.KernelRfl
namespace Go.Proofs.Ytlplaoiapleogaa
/- THE CELL 'sum', in the pinned program and in every row, IS THE sha256 OF THE DUMP (.gsa) THAT YtlplaoiapleogaaProg.lean LOADS. Nothing in Lean hashes anything: it is a label: what it is worth is what the hold of that sum in a sandbox is worth. -/
noncomputable def Try.pinned : Pinned := { name := "ytlplaoiapleogaa", sum := "8785d83e02dfcf1913236c23c7b8d74a1649a13c3e63238d688bf393ea159349", checked := Try.checked }
namespace Rows
def none {H : Type} : Left H := { results := [], args := [] }

/-- 'caromlaw24.JointValidation': WHATEVER THE INPUT: true; the input reads as it did. -/
def jointValidationSpec : ChangeSpec := { name := "jointValidation", fn := fun _ => fun
  | [d] => { results := [.lit (.bool true)], args := [d] }
  | _ => none }
def jointValidationRow : OpenClaim := { program := "ytlplaoiapleogaa", sum := "8785d83e02dfcf1913236c23c7b8d74a1649a13c3e63238d688bf393ea159349", func := "carom/caromlaw24.JointValidation", spec := "jointValidation", apart := false }
def JointValidationSaid : Prop := jointValidationRow.holds Try.pinned (OpenSpec.ofChange jointValidationSpec)

/-- ITS FALSE NEIGHBOUR: 'it returns false'. Refute it at one input. -/
def jointValidationWrong : ChangeSpec := { name := "jointValidation", fn := fun _ => fun
  | [d] => { results := [.lit (.bool false)], args := [d] }
  | _ => none }
def JointValidationWrongFalsely : Prop := jointValidationRow.holds Try.pinned (OpenSpec.ofChange jointValidationWrong)

/-- 'caromlaw24.JointAngleInvariant': WHATEVER THE INPUT: true; the input reads as it did. -/
def jointAngleInvariantSpec : ChangeSpec := { name := "jointAngleInvariant", fn := fun _ => fun
  | [d1, d2, d3] => { results := [.lit (.bool true)], args := [d1, d2, d3] }
  | _ => none }
def jointAngleInvariantRow : OpenClaim := { program := "ytlplaoiapleogaa", sum := "8785d83e02dfcf1913236c23c7b8d74a1649a13c3e63238d688bf393ea159349", func := "carom/caromlaw24.JointAngleInvariant", spec := "jointAngleInvariant", apart := false }
def JointAngleInvariantSaid : Prop := jointAngleInvariantRow.holds Try.pinned (OpenSpec.ofChange jointAngleInvariantSpec)

/-- ITS FALSE NEIGHBOUR: 'it returns false'. Refute it at one input. -/
def jointAngleInvariantWrong : ChangeSpec := { name := "jointAngleInvariant", fn := fun _ => fun
  | [d1, d2, d3] => { results := [.lit (.bool false)], args := [d1, d2, d3] }
  | _ => none }
def JointAngleInvariantWrongFalsely : Prop := jointAngleInvariantRow.holds Try.pinned (OpenSpec.ofChange jointAngleInvariantWrong)

/-- 'caromlaw24.JointBodies': WHATEVER THE INPUT: true; the input reads as it did. -/
def jointBodiesSpec : ChangeSpec := { name := "jointBodies", fn := fun _ => fun
  | [d] => { results := [.lit (.bool true)], args := [d] }
  | _ => none }
def jointBodiesRow : OpenClaim := { program := "ytlplaoiapleogaa", sum := "8785d83e02dfcf1913236c23c7b8d74a1649a13c3e63238d688bf393ea159349", func := "carom/caromlaw24.JointBodies", spec := "jointBodies", apart := false }
def JointBodiesSaid : Prop := jointBodiesRow.holds Try.pinned (OpenSpec.ofChange jointBodiesSpec)

/-- ITS FALSE NEIGHBOUR: 'it returns false'. Refute it at one input. -/
def jointBodiesWrong : ChangeSpec := { name := "jointBodies", fn := fun _ => fun
  | [d] => { results := [.lit (.bool false)], args := [d] }
  | _ => none }
def JointBodiesWrongFalsely : Prop := jointBodiesRow.holds Try.pinned (OpenSpec.ofChange jointBodiesWrong)

/-- 'caromlaw24.JointAttachedReset': WHATEVER THE INPUT: true; the input reads as it did. -/
def jointAttachedResetSpec : ChangeSpec := { name := "jointAttachedReset", fn := fun _ => fun
  | [d1, d2] => { results := [.lit (.bool true)], args := [d1, d2] }
  | _ => none }
def jointAttachedResetRow : OpenClaim := { program := "ytlplaoiapleogaa", sum := "8785d83e02dfcf1913236c23c7b8d74a1649a13c3e63238d688bf393ea159349", func := "carom/caromlaw24.JointAttachedReset", spec := "jointAttachedReset", apart := false }
def JointAttachedResetSaid : Prop := jointAttachedResetRow.holds Try.pinned (OpenSpec.ofChange jointAttachedResetSpec)

/-- ITS FALSE NEIGHBOUR: 'it returns false'. Refute it at one input. -/
def jointAttachedResetWrong : ChangeSpec := { name := "jointAttachedReset", fn := fun _ => fun
  | [d1, d2] => { results := [.lit (.bool false)], args := [d1, d2] }
  | _ => none }
def JointAttachedResetWrongFalsely : Prop := jointAttachedResetRow.holds Try.pinned (OpenSpec.ofChange jointAttachedResetWrong)

/-- 'caromlaw24.JointResetValid': WHATEVER THE INPUT: true; the input reads as it did. -/
def jointResetValidSpec : ChangeSpec := { name := "jointResetValid", fn := fun _ => fun
  | [d] => { results := [.lit (.bool true)], args := [d] }
  | _ => none }
def jointResetValidRow : OpenClaim := { program := "ytlplaoiapleogaa", sum := "8785d83e02dfcf1913236c23c7b8d74a1649a13c3e63238d688bf393ea159349", func := "carom/caromlaw24.JointResetValid", spec := "jointResetValid", apart := false }
def JointResetValidSaid : Prop := jointResetValidRow.holds Try.pinned (OpenSpec.ofChange jointResetValidSpec)

/-- ITS FALSE NEIGHBOUR: 'it returns false'. Refute it at one input. -/
def jointResetValidWrong : ChangeSpec := { name := "jointResetValid", fn := fun _ => fun
  | [d] => { results := [.lit (.bool false)], args := [d] }
  | _ => none }
def JointResetValidWrongFalsely : Prop := jointResetValidRow.holds Try.pinned (OpenSpec.ofChange jointResetValidWrong)

/-- 'caromlaw24.JointGeometryExact': WHATEVER THE INPUT: true; the input reads as it did. -/
def jointGeometryExactSpec : ChangeSpec := { name := "jointGeometryExact", fn := fun _ => fun
  | [d1, d2] => { results := [.lit (.bool true)], args := [d1, d2] }
  | _ => none }
def jointGeometryExactRow : OpenClaim := { program := "ytlplaoiapleogaa", sum := "8785d83e02dfcf1913236c23c7b8d74a1649a13c3e63238d688bf393ea159349", func := "carom/caromlaw24.JointGeometryExact", spec := "jointGeometryExact", apart := false }
def JointGeometryExactSaid : Prop := jointGeometryExactRow.holds Try.pinned (OpenSpec.ofChange jointGeometryExactSpec)

/-- ITS FALSE NEIGHBOUR: 'it returns false'. Refute it at one input. -/
def jointGeometryExactWrong : ChangeSpec := { name := "jointGeometryExact", fn := fun _ => fun
  | [d1, d2] => { results := [.lit (.bool false)], args := [d1, d2] }
  | _ => none }
def JointGeometryExactWrongFalsely : Prop := jointGeometryExactRow.holds Try.pinned (OpenSpec.ofChange jointGeometryExactWrong)

/- THE SECOND FORM. 'bulk': how many values and letters a reading holds, each counted each time it is reached (what is shared counts as often as it is met; a slice's spare places count too). A statement '..UptoSaid' is the law's where the arguments, and the package variables that the reading takes, are together of bulk at most 1048576: NARROWER than '..Said'. Prove '..Said' where nothing that the law and all that it calls make is longer than what came in: it says more and counts as full. Else prove '..UptoSaid'. A law counts once. -/
mutual
def uptoBulk {H : Type} : DataW H → Nat
  | .lit (.string bytes) => bytes.length + 1
  | .lit _ => 1
  | .nil => 1
  | .ptr d => uptoBulk d + 1
  | .slice elems spare => uptoBulkAll elems + uptoBulkAll spare + 1
  | .agg parts => uptoBulkAll parts + 1
  | .iface _ d => uptoBulk d + 1
  | .map entries => uptoBulkEntries entries + 1
  | .held _ => 1
def uptoBulkAll {H : Type} : List (DataW H) → Nat
  | [] => 0
  | d :: r => uptoBulk d + uptoBulkAll r
def uptoBulkEntries {H : Type} : List (Lit × DataW H) → Nat
  | [] => 0
  | x :: r => uptoBulkEntry x + uptoBulkEntries r
def uptoBulkEntry {H : Type} : Lit × DataW H → Nat
  | (.string bytes, d) => bytes.length + uptoBulk d + 1
  | (_, d) => uptoBulk d + 1
 end
def uptoSmall : (H : Type) → List (DataW H) → Bool := fun _ ds => decide (uptoBulkAll ds ≤ 1048576)
def OpenSpec.upto (s : _root_.Go.ChangeSpec) : _root_.Go.OpenSpec := { _root_.Go.OpenSpec.ofChange s with cond := some uptoSmall }

/-- 'caromlaw24.JointValidation', WHERE WHAT IT READS IS OF BULK AT MOST 1048576: true; the input reads as it did. -/
def jointValidationUptoRow : OpenClaim := { program := "ytlplaoiapleogaa", sum := "8785d83e02dfcf1913236c23c7b8d74a1649a13c3e63238d688bf393ea159349", func := "carom/caromlaw24.JointValidation", spec := "jointValidation", apart := false, narrowed := true }
def JointValidationUptoSaid : Prop := jointValidationUptoRow.holds Try.pinned (OpenSpec.upto jointValidationSpec)

/-- 'caromlaw24.JointAngleInvariant', WHERE WHAT IT READS IS OF BULK AT MOST 1048576: true; the input reads as it did. -/
def jointAngleInvariantUptoRow : OpenClaim := { program := "ytlplaoiapleogaa", sum := "8785d83e02dfcf1913236c23c7b8d74a1649a13c3e63238d688bf393ea159349", func := "carom/caromlaw24.JointAngleInvariant", spec := "jointAngleInvariant", apart := false, narrowed := true }
def JointAngleInvariantUptoSaid : Prop := jointAngleInvariantUptoRow.holds Try.pinned (OpenSpec.upto jointAngleInvariantSpec)

/-- 'caromlaw24.JointBodies', WHERE WHAT IT READS IS OF BULK AT MOST 1048576: true; the input reads as it did. -/
def jointBodiesUptoRow : OpenClaim := { program := "ytlplaoiapleogaa", sum := "8785d83e02dfcf1913236c23c7b8d74a1649a13c3e63238d688bf393ea159349", func := "carom/caromlaw24.JointBodies", spec := "jointBodies", apart := false, narrowed := true }
def JointBodiesUptoSaid : Prop := jointBodiesUptoRow.holds Try.pinned (OpenSpec.upto jointBodiesSpec)

/-- 'caromlaw24.JointAttachedReset', WHERE WHAT IT READS IS OF BULK AT MOST 1048576: true; the input reads as it did. -/
def jointAttachedResetUptoRow : OpenClaim := { program := "ytlplaoiapleogaa", sum := "8785d83e02dfcf1913236c23c7b8d74a1649a13c3e63238d688bf393ea159349", func := "carom/caromlaw24.JointAttachedReset", spec := "jointAttachedReset", apart := false, narrowed := true }
def JointAttachedResetUptoSaid : Prop := jointAttachedResetUptoRow.holds Try.pinned (OpenSpec.upto jointAttachedResetSpec)

/-- 'caromlaw24.JointResetValid', WHERE WHAT IT READS IS OF BULK AT MOST 1048576: true; the input reads as it did. -/
def jointResetValidUptoRow : OpenClaim := { program := "ytlplaoiapleogaa", sum := "8785d83e02dfcf1913236c23c7b8d74a1649a13c3e63238d688bf393ea159349", func := "carom/caromlaw24.JointResetValid", spec := "jointResetValid", apart := false, narrowed := true }
def JointResetValidUptoSaid : Prop := jointResetValidUptoRow.holds Try.pinned (OpenSpec.upto jointResetValidSpec)

/-- 'caromlaw24.JointGeometryExact', WHERE WHAT IT READS IS OF BULK AT MOST 1048576: true; the input reads as it did. -/
def jointGeometryExactUptoRow : OpenClaim := { program := "ytlplaoiapleogaa", sum := "8785d83e02dfcf1913236c23c7b8d74a1649a13c3e63238d688bf393ea159349", func := "carom/caromlaw24.JointGeometryExact", spec := "jointGeometryExact", apart := false, narrowed := true }
def JointGeometryExactUptoSaid : Prop := jointGeometryExactUptoRow.holds Try.pinned (OpenSpec.upto jointGeometryExactSpec)

end Rows
end Go.Proofs.Ytlplaoiapleogaa
