/-
  No cell of these rows narrows 'for every input' (looked for: loops, veiled, ifaces, maps, wideKeys, modest, calm, conditions, laid).
  DERIVED. THE GIVEN ROWS OF THIS SEAT. 4 by the template 'for every input the law returns true; each argument reads behind the call as it read before'; 0 by the template 'total and deterministic' (their statements: YtbjpfekcghnppaaTotals.lean).
  GIVEN WITH THE SEED: the statements are not yours to turn. If you find one false, say at which input.
  Laid BY PROGRAM, IN A SANDBOX (cutbox-rows.mjs): the forced cells as the released guide's own fill.sh prints them over the translation f8dd8536fc87d855… (all of the seat's roots in one cut). By AI agents, Wed Nov 11 2026. No macro, syntax, notation, axiom, sorry.
-/
import Derived.Test.YtbjpfekcghnppaaChecked
import GoSem.Claim
import GoSem.ClaimJoined
import GoSem.ClaimMapViews
import Derived.JoinedTies
import Derived.KernelRfl
namespace Go.Proofs.Ytbjpfekcghnppaa
/- THE CELL 'sum', in the pinned program and in every row, IS THE sha256 OF THE DUMP (.gsa) THAT YtbjpfekcghnppaaProg.lean LOADS. Nothing in Lean hashes anything: it is a label: what it is worth is what the hold of that sum in a sandbox is worth. -/
noncomputable def Try.pinned : Pinned := { name := "ytbjpfekcghnppaa", sum := "f8dd8536fc87d8553e81bf2d6e2ad0f372d2b0bf911253fb0e0f748c3470b8e1", checked := Try.checked }
namespace Rows
def none {H : Type} : Left H := { results := [], args := [] }

/-- 'caromlaw34.JointRowsStore': WHATEVER THE INPUT: true; the input reads as it did. -/
def jointRowsStoreSpec : ChangeSpec := { name := "jointRowsStore", fn := fun _ => fun
  | [d] => { results := [.lit (.bool true)], args := [d] }
  | _ => none }
def jointRowsStoreRow : OpenClaim := { program := "ytbjpfekcghnppaa", sum := "f8dd8536fc87d8553e81bf2d6e2ad0f372d2b0bf911253fb0e0f748c3470b8e1", func := "carom/caromlaw34.JointRowsStore", spec := "jointRowsStore", unfollowed := true, recurses := true, apart := false }
def JointRowsStoreSaid : Prop := jointRowsStoreRow.holds Try.pinned (OpenSpec.ofChange jointRowsStoreSpec)

/-- ITS FALSE NEIGHBOUR: 'it returns false'. Refute it at one input. -/
def jointRowsStoreWrong : ChangeSpec := { name := "jointRowsStore", fn := fun _ => fun
  | [d] => { results := [.lit (.bool false)], args := [d] }
  | _ => none }
def JointRowsStoreWrongFalsely : Prop := jointRowsStoreRow.holds Try.pinned (OpenSpec.ofChange jointRowsStoreWrong)

/-- 'caromlaw34.JointRowsBreaking': WHATEVER THE INPUT: true; the input reads as it did. -/
def jointRowsBreakingSpec : ChangeSpec := { name := "jointRowsBreaking", fn := fun _ => fun
  | [d1, d2] => { results := [.lit (.bool true)], args := [d1, d2] }
  | _ => none }
def jointRowsBreakingRow : OpenClaim := { program := "ytbjpfekcghnppaa", sum := "f8dd8536fc87d8553e81bf2d6e2ad0f372d2b0bf911253fb0e0f748c3470b8e1", func := "carom/caromlaw34.JointRowsBreaking", spec := "jointRowsBreaking", unfollowed := true, recurses := true, apart := false }
def JointRowsBreakingSaid : Prop := jointRowsBreakingRow.holds Try.pinned (OpenSpec.ofChange jointRowsBreakingSpec)

/-- ITS FALSE NEIGHBOUR: 'it returns false'. Refute it at one input. -/
def jointRowsBreakingWrong : ChangeSpec := { name := "jointRowsBreaking", fn := fun _ => fun
  | [d1, d2] => { results := [.lit (.bool false)], args := [d1, d2] }
  | _ => none }
def JointRowsBreakingWrongFalsely : Prop := jointRowsBreakingRow.holds Try.pinned (OpenSpec.ofChange jointRowsBreakingWrong)

/-- 'caromlaw34.JointRowsByKind': WHATEVER THE INPUT: true; the input reads as it did. -/
def jointRowsByKindSpec : ChangeSpec := { name := "jointRowsByKind", fn := fun _ => fun
  | [d] => { results := [.lit (.bool true)], args := [d] }
  | _ => none }
def jointRowsByKindRow : OpenClaim := { program := "ytbjpfekcghnppaa", sum := "f8dd8536fc87d8553e81bf2d6e2ad0f372d2b0bf911253fb0e0f748c3470b8e1", func := "carom/caromlaw34.JointRowsByKind", spec := "jointRowsByKind", unfollowed := true, recurses := true, apart := false }
def JointRowsByKindSaid : Prop := jointRowsByKindRow.holds Try.pinned (OpenSpec.ofChange jointRowsByKindSpec)

/-- ITS FALSE NEIGHBOUR: 'it returns false'. Refute it at one input. -/
def jointRowsByKindWrong : ChangeSpec := { name := "jointRowsByKind", fn := fun _ => fun
  | [d] => { results := [.lit (.bool false)], args := [d] }
  | _ => none }
def JointRowsByKindWrongFalsely : Prop := jointRowsByKindRow.holds Try.pinned (OpenSpec.ofChange jointRowsByKindWrong)

/-- 'caromlaw34.JointRowsWarmStart': WHATEVER THE INPUT: true; the input reads as it did. -/
def jointRowsWarmStartSpec : ChangeSpec := { name := "jointRowsWarmStart", fn := fun _ => fun
  | [d] => { results := [.lit (.bool true)], args := [d] }
  | _ => none }
def jointRowsWarmStartRow : OpenClaim := { program := "ytbjpfekcghnppaa", sum := "f8dd8536fc87d8553e81bf2d6e2ad0f372d2b0bf911253fb0e0f748c3470b8e1", func := "carom/caromlaw34.JointRowsWarmStart", spec := "jointRowsWarmStart", unfollowed := true, recurses := true, apart := false }
def JointRowsWarmStartSaid : Prop := jointRowsWarmStartRow.holds Try.pinned (OpenSpec.ofChange jointRowsWarmStartSpec)

/-- ITS FALSE NEIGHBOUR: 'it returns false'. Refute it at one input. -/
def jointRowsWarmStartWrong : ChangeSpec := { name := "jointRowsWarmStart", fn := fun _ => fun
  | [d] => { results := [.lit (.bool false)], args := [d] }
  | _ => none }
def JointRowsWarmStartWrongFalsely : Prop := jointRowsWarmStartRow.holds Try.pinned (OpenSpec.ofChange jointRowsWarmStartWrong)

/- THE SECOND FORM. 'bulk': how many values and letters a reading holds, each counted each time it is reached (what is shared counts as often as it is met; a slice's spare places count too). A statement '..UptoSaid' is the law's where the arguments, and the package variables that the reading takes, are together of bulk at most 1048576: NARROWER than '..Said'. Prove '..Said' where nothing that the law and all that it calls make is longer than what came in: it says more and counts as full. Else prove '..UptoSaid'. A law counts once. -/
mutual
def uptoBulk {H : Type} : DataW H → Nat
  | .lit (.string bytes) => bytes.length + 1
  | .lit _ => 1
  | .nil => 1
  | .ptr d => uptoBulk d + 1
  | .slice elems spare => uptoBulkAll elems + uptoBulkAll spare + 1
  | .agg parts => uptoBulkAll parts + 1
  | .iface _ d => uptoBulk d + 1
  | .map entries => uptoBulkEntries entries + 1
  | .held _ => 1
def uptoBulkAll {H : Type} : List (DataW H) → Nat
  | [] => 0
  | d :: r => uptoBulk d + uptoBulkAll r
def uptoBulkEntries {H : Type} : List (Lit × DataW H) → Nat
  | [] => 0
  | x :: r => uptoBulkEntry x + uptoBulkEntries r
def uptoBulkEntry {H : Type} : Lit × DataW H → Nat
  | (.string bytes, d) => bytes.length + uptoBulk d + 1
  | (_, d) => uptoBulk d + 1
 end
def uptoSmall : (H : Type) → List (DataW H) → Bool := fun _ ds => decide (uptoBulkAll ds ≤ 1048576)
def OpenSpec.upto (s : _root_.Go.ChangeSpec) : _root_.Go.OpenSpec := { _root_.Go.OpenSpec.ofChange s with cond := some uptoSmall }

/-- 'caromlaw34.JointRowsStore', WHERE WHAT IT READS IS OF BULK AT MOST 1048576: true; the input reads as it did. -/
def jointRowsStoreUptoRow : OpenClaim := { program := "ytbjpfekcghnppaa", sum := "f8dd8536fc87d8553e81bf2d6e2ad0f372d2b0bf911253fb0e0f748c3470b8e1", func := "carom/caromlaw34.JointRowsStore", spec := "jointRowsStore", unfollowed := true, recurses := true, apart := false, narrowed := true }
def JointRowsStoreUptoSaid : Prop := jointRowsStoreUptoRow.holds Try.pinned (OpenSpec.upto jointRowsStoreSpec)

/-- 'caromlaw34.JointRowsBreaking', WHERE WHAT IT READS IS OF BULK AT MOST 1048576: true; the input reads as it did. -/
def jointRowsBreakingUptoRow : OpenClaim := { program := "ytbjpfekcghnppaa", sum := "f8dd8536fc87d8553e81bf2d6e2ad0f372d2b0bf911253fb0e0f748c3470b8e1", func := "carom/caromlaw34.JointRowsBreaking", spec := "jointRowsBreaking", unfollowed := true, recurses := true, apart := false, narrowed := true }
def JointRowsBreakingUptoSaid : Prop := jointRowsBreakingUptoRow.holds Try.pinned (OpenSpec.upto jointRowsBreakingSpec)

/-- 'caromlaw34.JointRowsByKind', WHERE WHAT IT READS IS OF BULK AT MOST 1048576: true; the input reads as it did. -/
def jointRowsByKindUptoRow : OpenClaim := { program := "ytbjpfekcghnppaa", sum := "f8dd8536fc87d8553e81bf2d6e2ad0f372d2b0bf911253fb0e0f748c3470b8e1", func := "carom/caromlaw34.JointRowsByKind", spec := "jointRowsByKind", unfollowed := true, recurses := true, apart := false, narrowed := true }
def JointRowsByKindUptoSaid : Prop := jointRowsByKindUptoRow.holds Try.pinned (OpenSpec.upto jointRowsByKindSpec)

/-- 'caromlaw34.JointRowsWarmStart', WHERE WHAT IT READS IS OF BULK AT MOST 1048576: true; the input reads as it did. -/
def jointRowsWarmStartUptoRow : OpenClaim := { program := "ytbjpfekcghnppaa", sum := "f8dd8536fc87d8553e81bf2d6e2ad0f372d2b0bf911253fb0e0f748c3470b8e1", func := "carom/caromlaw34.JointRowsWarmStart", spec := "jointRowsWarmStart", unfollowed := true, recurses := true, apart := false, narrowed := true }
def JointRowsWarmStartUptoSaid : Prop := jointRowsWarmStartUptoRow.holds Try.pinned (OpenSpec.upto jointRowsWarmStartSpec)

end Rows
end Go.Proofs.Ytbjpfekcghnppaa
