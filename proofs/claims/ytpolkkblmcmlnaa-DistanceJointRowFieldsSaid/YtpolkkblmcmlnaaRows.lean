/-
  No cell of these rows narrows 'for every input' (looked for: loops, veiled, ifaces, maps, wideKeys, modest, calm, conditions, laid).
  DERIVED. THE GIVEN ROWS OF THIS SEAT. 3 by the template 'for every input the law returns true; each argument reads behind the call as it read before'; 0 by the template 'total and deterministic' (their statements: YtpolkkblmcmlnaaTotals.lean).
  GIVEN WITH THE SEED: the statements are not yours to turn. If you find one false, say at which input.
  Laid BY PROGRAM, IN A SANDBOX (cutbox-rows.mjs): the forced cells as the released guide's own fill.sh prints them over the translation 11c5f338847495c4… (all of the seat's roots in one cut). By AI agents, Wed Nov 11 2026. No macro, syntax, notation, axiom, sorry.
-/
import Derived.Test.YtpolkkblmcmlnaaChecked
import GoSem.Claim
import GoSem.ClaimJoined
import GoSem.ClaimMapViews
import Derived.JoinedTies
import Derived.KernelRfl
namespace Go.Proofs.Ytpolkkblmcmlnaa
/- THE CELL 'sum', in the pinned program and in every row, IS THE sha256 OF THE DUMP (.gsa) THAT YtpolkkblmcmlnaaProg.lean LOADS. Nothing in Lean hashes anything: it is a label: what it is worth is what the hold of that sum in a sandbox is worth. -/
noncomputable def Try.pinned : Pinned := { name := "ytpolkkblmcmlnaa", sum := "11c5f338847495c43479fd97cd8b65eb94f2dd8dd076efeecfa9b3ed4bb7539f", checked := Try.checked }
namespace Rows
def none {H : Type} : Left H := { results := [], args := [] }

/-- 'caromlaw30.DistanceJointLength': WHATEVER THE INPUT: true; the input reads as it did. -/
def distanceJointLengthSpec : ChangeSpec := { name := "distanceJointLength", fn := fun _ => fun
  | [d] => { results := [.lit (.bool true)], args := [d] }
  | _ => none }
def distanceJointLengthRow : OpenClaim := { program := "ytpolkkblmcmlnaa", sum := "11c5f338847495c43479fd97cd8b65eb94f2dd8dd076efeecfa9b3ed4bb7539f", func := "carom/caromlaw30.DistanceJointLength", spec := "distanceJointLength", unfollowed := true, recurses := true, apart := false }
def DistanceJointLengthSaid : Prop := distanceJointLengthRow.holds Try.pinned (OpenSpec.ofChange distanceJointLengthSpec)

/-- ITS FALSE NEIGHBOUR: 'it returns false'. Refute it at one input. -/
def distanceJointLengthWrong : ChangeSpec := { name := "distanceJointLength", fn := fun _ => fun
  | [d] => { results := [.lit (.bool false)], args := [d] }
  | _ => none }
def DistanceJointLengthWrongFalsely : Prop := distanceJointLengthRow.holds Try.pinned (OpenSpec.ofChange distanceJointLengthWrong)

/-- 'caromlaw30.DistanceJointRowFields': WHATEVER THE INPUT: true; the input reads as it did. -/
def distanceJointRowFieldsSpec : ChangeSpec := { name := "distanceJointRowFields", fn := fun _ => fun
  | [d] => { results := [.lit (.bool true)], args := [d] }
  | _ => none }
def distanceJointRowFieldsRow : OpenClaim := { program := "ytpolkkblmcmlnaa", sum := "11c5f338847495c43479fd97cd8b65eb94f2dd8dd076efeecfa9b3ed4bb7539f", func := "carom/caromlaw30.DistanceJointRowFields", spec := "distanceJointRowFields", unfollowed := true, recurses := true, apart := false }
def DistanceJointRowFieldsSaid : Prop := distanceJointRowFieldsRow.holds Try.pinned (OpenSpec.ofChange distanceJointRowFieldsSpec)

/-- ITS FALSE NEIGHBOUR: 'it returns false'. Refute it at one input. -/
def distanceJointRowFieldsWrong : ChangeSpec := { name := "distanceJointRowFields", fn := fun _ => fun
  | [d] => { results := [.lit (.bool false)], args := [d] }
  | _ => none }
def DistanceJointRowFieldsWrongFalsely : Prop := distanceJointRowFieldsRow.holds Try.pinned (OpenSpec.ofChange distanceJointRowFieldsWrong)

/-- 'caromlaw30.DistanceJointUnilateral': WHATEVER THE INPUT: true; the input reads as it did. -/
def distanceJointUnilateralSpec : ChangeSpec := { name := "distanceJointUnilateral", fn := fun _ => fun
  | [d] => { results := [.lit (.bool true)], args := [d] }
  | _ => none }
def distanceJointUnilateralRow : OpenClaim := { program := "ytpolkkblmcmlnaa", sum := "11c5f338847495c43479fd97cd8b65eb94f2dd8dd076efeecfa9b3ed4bb7539f", func := "carom/caromlaw30.DistanceJointUnilateral", spec := "distanceJointUnilateral", unfollowed := true, recurses := true, apart := false }
def DistanceJointUnilateralSaid : Prop := distanceJointUnilateralRow.holds Try.pinned (OpenSpec.ofChange distanceJointUnilateralSpec)

/-- ITS FALSE NEIGHBOUR: 'it returns false'. Refute it at one input. -/
def distanceJointUnilateralWrong : ChangeSpec := { name := "distanceJointUnilateral", fn := fun _ => fun
  | [d] => { results := [.lit (.bool false)], args := [d] }
  | _ => none }
def DistanceJointUnilateralWrongFalsely : Prop := distanceJointUnilateralRow.holds Try.pinned (OpenSpec.ofChange distanceJointUnilateralWrong)

/- THE SECOND FORM. 'bulk': how many values and letters a reading holds, each counted each time it is reached (what is shared counts as often as it is met; a slice's spare places count too). A statement '..UptoSaid' is the law's where the arguments, and the package variables that the reading takes, are together of bulk at most 1048576: NARROWER than '..Said'. Prove '..Said' where nothing that the law and all that it calls make is longer than what came in: it says more and counts as full. Else prove '..UptoSaid'. A law counts once. -/
mutual
def uptoBulk {H : Type} : DataW H → Nat
  | .lit (.string bytes) => bytes.length + 1
  | .lit _ => 1
  | .nil => 1
  | .ptr d => uptoBulk d + 1
  | .slice elems spare => uptoBulkAll elems + uptoBulkAll spare + 1
  | .agg parts => uptoBulkAll parts + 1
  | .iface _ d => uptoBulk d + 1
  | .map entries => uptoBulkEntries entries + 1
  | .held _ => 1
def uptoBulkAll {H : Type} : List (DataW H) → Nat
  | [] => 0
  | d :: r => uptoBulk d + uptoBulkAll r
def uptoBulkEntries {H : Type} : List (Lit × DataW H) → Nat
  | [] => 0
  | x :: r => uptoBulkEntry x + uptoBulkEntries r
def uptoBulkEntry {H : Type} : Lit × DataW H → Nat
  | (.string bytes, d) => bytes.length + uptoBulk d + 1
  | (_, d) => uptoBulk d + 1
 end
def uptoSmall : (H : Type) → List (DataW H) → Bool := fun _ ds => decide (uptoBulkAll ds ≤ 1048576)
def OpenSpec.upto (s : _root_.Go.ChangeSpec) : _root_.Go.OpenSpec := { _root_.Go.OpenSpec.ofChange s with cond := some uptoSmall }

/-- 'caromlaw30.DistanceJointLength', WHERE WHAT IT READS IS OF BULK AT MOST 1048576: true; the input reads as it did. -/
def distanceJointLengthUptoRow : OpenClaim := { program := "ytpolkkblmcmlnaa", sum := "11c5f338847495c43479fd97cd8b65eb94f2dd8dd076efeecfa9b3ed4bb7539f", func := "carom/caromlaw30.DistanceJointLength", spec := "distanceJointLength", unfollowed := true, recurses := true, apart := false, narrowed := true }
def DistanceJointLengthUptoSaid : Prop := distanceJointLengthUptoRow.holds Try.pinned (OpenSpec.upto distanceJointLengthSpec)

/-- 'caromlaw30.DistanceJointRowFields', WHERE WHAT IT READS IS OF BULK AT MOST 1048576: true; the input reads as it did. -/
def distanceJointRowFieldsUptoRow : OpenClaim := { program := "ytpolkkblmcmlnaa", sum := "11c5f338847495c43479fd97cd8b65eb94f2dd8dd076efeecfa9b3ed4bb7539f", func := "carom/caromlaw30.DistanceJointRowFields", spec := "distanceJointRowFields", unfollowed := true, recurses := true, apart := false, narrowed := true }
def DistanceJointRowFieldsUptoSaid : Prop := distanceJointRowFieldsUptoRow.holds Try.pinned (OpenSpec.upto distanceJointRowFieldsSpec)

/-- 'caromlaw30.DistanceJointUnilateral', WHERE WHAT IT READS IS OF BULK AT MOST 1048576: true; the input reads as it did. -/
def distanceJointUnilateralUptoRow : OpenClaim := { program := "ytpolkkblmcmlnaa", sum := "11c5f338847495c43479fd97cd8b65eb94f2dd8dd076efeecfa9b3ed4bb7539f", func := "carom/caromlaw30.DistanceJointUnilateral", spec := "distanceJointUnilateral", unfollowed := true, recurses := true, apart := false, narrowed := true }
def DistanceJointUnilateralUptoSaid : Prop := distanceJointUnilateralUptoRow.holds Try.pinned (OpenSpec.upto distanceJointUnilateralSpec)

end Rows
end Go.Proofs.Ytpolkkblmcmlnaa
