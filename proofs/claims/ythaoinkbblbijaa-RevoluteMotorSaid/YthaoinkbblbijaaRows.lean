/-
  No cell of these rows narrows 'for every input' (looked for: loops, veiled, ifaces, maps, wideKeys, modest, calm, conditions, laid).
  DERIVED. THE GIVEN ROWS OF THIS SEAT. 3 by the template 'for every input the law returns true; each argument reads behind the call as it read before'; 0 by the template 'total and deterministic' (their statements: YthaoinkbblbijaaTotals.lean).
  GIVEN WITH THE SEED: the statements are not yours to turn. If you find one false, say at which input.
  Laid BY PROGRAM, IN A SANDBOX (cutbox-rows.mjs): the forced cells as the released guide's own fill.sh prints them over the translation 9bb703ca87b7d63d… (all of the seat's roots in one cut). By AI agents, Wed Nov 11 2026. No macro, syntax, notation, axiom, sorry.
-/
import Derived.Test.YthaoinkbblbijaaChecked
import GoSem.Claim
import GoSem.ClaimJoined
import GoSem.ClaimMapViews
import Derived.JoinedTies
import Derived.KernelRfl
namespace Go.Proofs.Ythaoinkbblbijaa
/- THE CELL 'sum', in the pinned program and in every row, IS THE sha256 OF THE DUMP (.gsa) THAT YthaoinkbblbijaaProg.lean LOADS. Nothing in Lean hashes anything: it is a label: what it is worth is what the hold of that sum in a sandbox is worth. -/
noncomputable def Try.pinned : Pinned := { name := "ythaoinkbblbijaa", sum := "9bb703ca87b7d63def0a83253c9a5427a9c563ae917302ad97ffb4c0f078b284", checked := Try.checked }
namespace Rows
def none {H : Type} : Left H := { results := [], args := [] }

/-- 'caromlaw31.RevoluteMotor': WHATEVER THE INPUT: true; the input reads as it did. -/
def revoluteMotorSpec : ChangeSpec := { name := "revoluteMotor", fn := fun _ => fun
  | [d1, d2, d3] => { results := [.lit (.bool true)], args := [d1, d2, d3] }
  | _ => none }
def revoluteMotorRow : OpenClaim := { program := "ythaoinkbblbijaa", sum := "9bb703ca87b7d63def0a83253c9a5427a9c563ae917302ad97ffb4c0f078b284", func := "carom/caromlaw31.RevoluteMotor", spec := "revoluteMotor", unfollowed := true, recurses := true, apart := false }
def RevoluteMotorSaid : Prop := revoluteMotorRow.holds Try.pinned (OpenSpec.ofChange revoluteMotorSpec)

/-- ITS FALSE NEIGHBOUR: 'it returns false'. Refute it at one input. -/
def revoluteMotorWrong : ChangeSpec := { name := "revoluteMotor", fn := fun _ => fun
  | [d1, d2, d3] => { results := [.lit (.bool false)], args := [d1, d2, d3] }
  | _ => none }
def RevoluteMotorWrongFalsely : Prop := revoluteMotorRow.holds Try.pinned (OpenSpec.ofChange revoluteMotorWrong)

/-- 'caromlaw31.RevoluteLimits': WHATEVER THE INPUT: true; the input reads as it did. -/
def revoluteLimitsSpec : ChangeSpec := { name := "revoluteLimits", fn := fun _ => fun
  | [d1, d2, d3, d4, d5, d6, d7] => { results := [.lit (.bool true)], args := [d1, d2, d3, d4, d5, d6, d7] }
  | _ => none }
def revoluteLimitsRow : OpenClaim := { program := "ythaoinkbblbijaa", sum := "9bb703ca87b7d63def0a83253c9a5427a9c563ae917302ad97ffb4c0f078b284", func := "carom/caromlaw31.RevoluteLimits", spec := "revoluteLimits", unfollowed := true, recurses := true, apart := false }
def RevoluteLimitsSaid : Prop := revoluteLimitsRow.holds Try.pinned (OpenSpec.ofChange revoluteLimitsSpec)

/-- ITS FALSE NEIGHBOUR: 'it returns false'. Refute it at one input. -/
def revoluteLimitsWrong : ChangeSpec := { name := "revoluteLimits", fn := fun _ => fun
  | [d1, d2, d3, d4, d5, d6, d7] => { results := [.lit (.bool false)], args := [d1, d2, d3, d4, d5, d6, d7] }
  | _ => none }
def RevoluteLimitsWrongFalsely : Prop := revoluteLimitsRow.holds Try.pinned (OpenSpec.ofChange revoluteLimitsWrong)

/-- 'caromlaw31.RevoluteRowCount': WHATEVER THE INPUT: true; the input reads as it did. -/
def revoluteRowCountSpec : ChangeSpec := { name := "revoluteRowCount", fn := fun _ => fun
  | [d] => { results := [.lit (.bool true)], args := [d] }
  | _ => none }
def revoluteRowCountRow : OpenClaim := { program := "ythaoinkbblbijaa", sum := "9bb703ca87b7d63def0a83253c9a5427a9c563ae917302ad97ffb4c0f078b284", func := "carom/caromlaw31.RevoluteRowCount", spec := "revoluteRowCount", unfollowed := true, recurses := true, apart := false }
def RevoluteRowCountSaid : Prop := revoluteRowCountRow.holds Try.pinned (OpenSpec.ofChange revoluteRowCountSpec)

/-- ITS FALSE NEIGHBOUR: 'it returns false'. Refute it at one input. -/
def revoluteRowCountWrong : ChangeSpec := { name := "revoluteRowCount", fn := fun _ => fun
  | [d] => { results := [.lit (.bool false)], args := [d] }
  | _ => none }
def RevoluteRowCountWrongFalsely : Prop := revoluteRowCountRow.holds Try.pinned (OpenSpec.ofChange revoluteRowCountWrong)

/- THE SECOND FORM. 'bulk': how many values and letters a reading holds, each counted each time it is reached (what is shared counts as often as it is met; a slice's spare places count too). A statement '..UptoSaid' is the law's where the arguments, and the package variables that the reading takes, are together of bulk at most 1048576: NARROWER than '..Said'. Prove '..Said' where nothing that the law and all that it calls make is longer than what came in: it says more and counts as full. Else prove '..UptoSaid'. A law counts once. -/
mutual
def uptoBulk {H : Type} : DataW H → Nat
  | .lit (.string bytes) => bytes.length + 1
  | .lit _ => 1
  | .nil => 1
  | .ptr d => uptoBulk d + 1
  | .slice elems spare => uptoBulkAll elems + uptoBulkAll spare + 1
  | .agg parts => uptoBulkAll parts + 1
  | .iface _ d => uptoBulk d + 1
  | .map entries => uptoBulkEntries entries + 1
  | .held _ => 1
def uptoBulkAll {H : Type} : List (DataW H) → Nat
  | [] => 0
  | d :: r => uptoBulk d + uptoBulkAll r
def uptoBulkEntries {H : Type} : List (Lit × DataW H) → Nat
  | [] => 0
  | x :: r => uptoBulkEntry x + uptoBulkEntries r
def uptoBulkEntry {H : Type} : Lit × DataW H → Nat
  | (.string bytes, d) => bytes.length + uptoBulk d + 1
  | (_, d) => uptoBulk d + 1
 end
def uptoSmall : (H : Type) → List (DataW H) → Bool := fun _ ds => decide (uptoBulkAll ds ≤ 1048576)
def OpenSpec.upto (s : _root_.Go.ChangeSpec) : _root_.Go.OpenSpec := { _root_.Go.OpenSpec.ofChange s with cond := some uptoSmall }

/-- 'caromlaw31.RevoluteMotor', WHERE WHAT IT READS IS OF BULK AT MOST 1048576: true; the input reads as it did. -/
def revoluteMotorUptoRow : OpenClaim := { program := "ythaoinkbblbijaa", sum := "9bb703ca87b7d63def0a83253c9a5427a9c563ae917302ad97ffb4c0f078b284", func := "carom/caromlaw31.RevoluteMotor", spec := "revoluteMotor", unfollowed := true, recurses := true, apart := false, narrowed := true }
def RevoluteMotorUptoSaid : Prop := revoluteMotorUptoRow.holds Try.pinned (OpenSpec.upto revoluteMotorSpec)

/-- 'caromlaw31.RevoluteLimits', WHERE WHAT IT READS IS OF BULK AT MOST 1048576: true; the input reads as it did. -/
def revoluteLimitsUptoRow : OpenClaim := { program := "ythaoinkbblbijaa", sum := "9bb703ca87b7d63def0a83253c9a5427a9c563ae917302ad97ffb4c0f078b284", func := "carom/caromlaw31.RevoluteLimits", spec := "revoluteLimits", unfollowed := true, recurses := true, apart := false, narrowed := true }
def RevoluteLimitsUptoSaid : Prop := revoluteLimitsUptoRow.holds Try.pinned (OpenSpec.upto revoluteLimitsSpec)

/-- 'caromlaw31.RevoluteRowCount', WHERE WHAT IT READS IS OF BULK AT MOST 1048576: true; the input reads as it did. -/
def revoluteRowCountUptoRow : OpenClaim := { program := "ythaoinkbblbijaa", sum := "9bb703ca87b7d63def0a83253c9a5427a9c563ae917302ad97ffb4c0f078b284", func := "carom/caromlaw31.RevoluteRowCount", spec := "revoluteRowCount", unfollowed := true, recurses := true, apart := false, narrowed := true }
def RevoluteRowCountUptoSaid : Prop := revoluteRowCountUptoRow.holds Try.pinned (OpenSpec.upto revoluteRowCountSpec)

end Rows
end Go.Proofs.Ythaoinkbblbijaa
