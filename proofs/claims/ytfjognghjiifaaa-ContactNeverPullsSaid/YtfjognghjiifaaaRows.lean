/-
  No cell of these rows narrows 'for every input' (looked for: loops, veiled, ifaces, maps, wideKeys, modest, calm, conditions, laid).
  DERIVED. THE GIVEN ROWS OF THIS SEAT. 6 by the template 'for every input the law returns true; each argument reads behind the call as it read before'; 0 by the template 'total and deterministic' (their statements: YtfjognghjiifaaaTotals.lean).
  GIVEN WITH THE SEED: the statements are not yours to turn. If you find one false, say at which input.
  Laid BY PROGRAM, IN A SANDBOX (cutbox-rows.mjs): the forced cells as the released guide's own fill.sh prints them over the translation 0237a5d179df074a… (all of the seat's roots in one cut). By AI agents, Wed Nov 11 2026. No macro, syntax, notation, axiom, sorry.
-/
import Derived.Test.YtfjognghjiifaaaChecked
import GoSem.Claim
import GoSem.ClaimJoined
import GoSem.ClaimMapViews
import Derived.JoinedTies
import Derived.KernelRfl
namespace Go.Proofs.Ytfjognghjiifaaa
/- THE CELL 'sum', in the pinned program and in every row, IS THE sha256 OF THE DUMP (.gsa) THAT YtfjognghjiifaaaProg.lean LOADS. Nothing in Lean hashes anything: it is a label: what it is worth is what the hold of that sum in a sandbox is worth. -/
noncomputable def Try.pinned : Pinned := { name := "ytfjognghjiifaaa", sum := "0237a5d179df074a3e7471f619414829e2157101fdb775d87800f581883fc05f", checked := Try.checked }
namespace Rows
def none {H : Type} : Left H := { results := [], args := [] }

/-- 'caromlaw29.ContactMaterial': WHATEVER THE INPUT: true; the input reads as it did. -/
def contactMaterialSpec : ChangeSpec := { name := "contactMaterial", fn := fun _ => fun
  | [d1, d2] => { results := [.lit (.bool true)], args := [d1, d2] }
  | _ => none }
def contactMaterialRow : OpenClaim := { program := "ytfjognghjiifaaa", sum := "0237a5d179df074a3e7471f619414829e2157101fdb775d87800f581883fc05f", func := "carom/caromlaw29.ContactMaterial", spec := "contactMaterial", unfollowed := true, recurses := true, apart := false }
def ContactMaterialSaid : Prop := contactMaterialRow.holds Try.pinned (OpenSpec.ofChange contactMaterialSpec)

/-- ITS FALSE NEIGHBOUR: 'it returns false'. Refute it at one input. -/
def contactMaterialWrong : ChangeSpec := { name := "contactMaterial", fn := fun _ => fun
  | [d1, d2] => { results := [.lit (.bool false)], args := [d1, d2] }
  | _ => none }
def ContactMaterialWrongFalsely : Prop := contactMaterialRow.holds Try.pinned (OpenSpec.ofChange contactMaterialWrong)

/-- 'caromlaw29.ContactStore': WHATEVER THE INPUT: true; the input reads as it did. -/
def contactStoreSpec : ChangeSpec := { name := "contactStore", fn := fun _ => fun
  | [d1, d2, d3] => { results := [.lit (.bool true)], args := [d1, d2, d3] }
  | _ => none }
def contactStoreRow : OpenClaim := { program := "ytfjognghjiifaaa", sum := "0237a5d179df074a3e7471f619414829e2157101fdb775d87800f581883fc05f", func := "carom/caromlaw29.ContactStore", spec := "contactStore", unfollowed := true, recurses := true, apart := false }
def ContactStoreSaid : Prop := contactStoreRow.holds Try.pinned (OpenSpec.ofChange contactStoreSpec)

/-- ITS FALSE NEIGHBOUR: 'it returns false'. Refute it at one input. -/
def contactStoreWrong : ChangeSpec := { name := "contactStore", fn := fun _ => fun
  | [d1, d2, d3] => { results := [.lit (.bool false)], args := [d1, d2, d3] }
  | _ => none }
def ContactStoreWrongFalsely : Prop := contactStoreRow.holds Try.pinned (OpenSpec.ofChange contactStoreWrong)

/-- 'caromlaw29.ContactStoreRows': WHATEVER THE INPUT: true; the input reads as it did. -/
def contactStoreRowsSpec : ChangeSpec := { name := "contactStoreRows", fn := fun _ => fun
  | [d1, d2, d3, d4, d5] => { results := [.lit (.bool true)], args := [d1, d2, d3, d4, d5] }
  | _ => none }
def contactStoreRowsRow : OpenClaim := { program := "ytfjognghjiifaaa", sum := "0237a5d179df074a3e7471f619414829e2157101fdb775d87800f581883fc05f", func := "carom/caromlaw29.ContactStoreRows", spec := "contactStoreRows", unfollowed := true, recurses := true, apart := false }
def ContactStoreRowsSaid : Prop := contactStoreRowsRow.holds Try.pinned (OpenSpec.ofChange contactStoreRowsSpec)

/-- ITS FALSE NEIGHBOUR: 'it returns false'. Refute it at one input. -/
def contactStoreRowsWrong : ChangeSpec := { name := "contactStoreRows", fn := fun _ => fun
  | [d1, d2, d3, d4, d5] => { results := [.lit (.bool false)], args := [d1, d2, d3, d4, d5] }
  | _ => none }
def ContactStoreRowsWrongFalsely : Prop := contactStoreRowsRow.holds Try.pinned (OpenSpec.ofChange contactStoreRowsWrong)

/-- 'caromlaw29.ContactMissingFixture': WHATEVER THE INPUT: true; the input reads as it did. -/
def contactMissingFixtureSpec : ChangeSpec := { name := "contactMissingFixture", fn := fun _ => fun
  | [d1, d2, d3] => { results := [.lit (.bool true)], args := [d1, d2, d3] }
  | _ => none }
def contactMissingFixtureRow : OpenClaim := { program := "ytfjognghjiifaaa", sum := "0237a5d179df074a3e7471f619414829e2157101fdb775d87800f581883fc05f", func := "carom/caromlaw29.ContactMissingFixture", spec := "contactMissingFixture", unfollowed := true, recurses := true, apart := false }
def ContactMissingFixtureSaid : Prop := contactMissingFixtureRow.holds Try.pinned (OpenSpec.ofChange contactMissingFixtureSpec)

/-- ITS FALSE NEIGHBOUR: 'it returns false'. Refute it at one input. -/
def contactMissingFixtureWrong : ChangeSpec := { name := "contactMissingFixture", fn := fun _ => fun
  | [d1, d2, d3] => { results := [.lit (.bool false)], args := [d1, d2, d3] }
  | _ => none }
def ContactMissingFixtureWrongFalsely : Prop := contactMissingFixtureRow.holds Try.pinned (OpenSpec.ofChange contactMissingFixtureWrong)

/-- 'caromlaw29.ContactFrictionBounds': WHATEVER THE INPUT: true; the input reads as it did. -/
def contactFrictionBoundsSpec : ChangeSpec := { name := "contactFrictionBounds", fn := fun _ => fun
  | [d1, d2, d3, d4, d5] => { results := [.lit (.bool true)], args := [d1, d2, d3, d4, d5] }
  | _ => none }
def contactFrictionBoundsRow : OpenClaim := { program := "ytfjognghjiifaaa", sum := "0237a5d179df074a3e7471f619414829e2157101fdb775d87800f581883fc05f", func := "carom/caromlaw29.ContactFrictionBounds", spec := "contactFrictionBounds", unfollowed := true, recurses := true, apart := false }
def ContactFrictionBoundsSaid : Prop := contactFrictionBoundsRow.holds Try.pinned (OpenSpec.ofChange contactFrictionBoundsSpec)

/-- ITS FALSE NEIGHBOUR: 'it returns false'. Refute it at one input. -/
def contactFrictionBoundsWrong : ChangeSpec := { name := "contactFrictionBounds", fn := fun _ => fun
  | [d1, d2, d3, d4, d5] => { results := [.lit (.bool false)], args := [d1, d2, d3, d4, d5] }
  | _ => none }
def ContactFrictionBoundsWrongFalsely : Prop := contactFrictionBoundsRow.holds Try.pinned (OpenSpec.ofChange contactFrictionBoundsWrong)

/-- 'caromlaw29.ContactNeverPulls': WHATEVER THE INPUT: true; the input reads as it did. -/
def contactNeverPullsSpec : ChangeSpec := { name := "contactNeverPulls", fn := fun _ => fun
  | [d1, d2, d3, d4, d5, d6] => { results := [.lit (.bool true)], args := [d1, d2, d3, d4, d5, d6] }
  | _ => none }
def contactNeverPullsRow : OpenClaim := { program := "ytfjognghjiifaaa", sum := "0237a5d179df074a3e7471f619414829e2157101fdb775d87800f581883fc05f", func := "carom/caromlaw29.ContactNeverPulls", spec := "contactNeverPulls", unfollowed := true, recurses := true, apart := false }
def ContactNeverPullsSaid : Prop := contactNeverPullsRow.holds Try.pinned (OpenSpec.ofChange contactNeverPullsSpec)

/-- ITS FALSE NEIGHBOUR: 'it returns false'. Refute it at one input. -/
def contactNeverPullsWrong : ChangeSpec := { name := "contactNeverPulls", fn := fun _ => fun
  | [d1, d2, d3, d4, d5, d6] => { results := [.lit (.bool false)], args := [d1, d2, d3, d4, d5, d6] }
  | _ => none }
def ContactNeverPullsWrongFalsely : Prop := contactNeverPullsRow.holds Try.pinned (OpenSpec.ofChange contactNeverPullsWrong)

/- THE SECOND FORM. 'bulk': how many values and letters a reading holds, each counted each time it is reached (what is shared counts as often as it is met; a slice's spare places count too). A statement '..UptoSaid' is the law's where the arguments, and the package variables that the reading takes, are together of bulk at most 1048576: NARROWER than '..Said'. Prove '..Said' where nothing that the law and all that it calls make is longer than what came in: it says more and counts as full. Else prove '..UptoSaid'. A law counts once. -/
mutual
def uptoBulk {H : Type} : DataW H → Nat
  | .lit (.string bytes) => bytes.length + 1
  | .lit _ => 1
  | .nil => 1
  | .ptr d => uptoBulk d + 1
  | .slice elems spare => uptoBulkAll elems + uptoBulkAll spare + 1
  | .agg parts => uptoBulkAll parts + 1
  | .iface _ d => uptoBulk d + 1
  | .map entries => uptoBulkEntries entries + 1
  | .held _ => 1
def uptoBulkAll {H : Type} : List (DataW H) → Nat
  | [] => 0
  | d :: r => uptoBulk d + uptoBulkAll r
def uptoBulkEntries {H : Type} : List (Lit × DataW H) → Nat
  | [] => 0
  | x :: r => uptoBulkEntry x + uptoBulkEntries r
def uptoBulkEntry {H : Type} : Lit × DataW H → Nat
  | (.string bytes, d) => bytes.length + uptoBulk d + 1
  | (_, d) => uptoBulk d + 1
 end
def uptoSmall : (H : Type) → List (DataW H) → Bool := fun _ ds => decide (uptoBulkAll ds ≤ 1048576)
def OpenSpec.upto (s : _root_.Go.ChangeSpec) : _root_.Go.OpenSpec := { _root_.Go.OpenSpec.ofChange s with cond := some uptoSmall }

/-- 'caromlaw29.ContactMaterial', WHERE WHAT IT READS IS OF BULK AT MOST 1048576: true; the input reads as it did. -/
def contactMaterialUptoRow : OpenClaim := { program := "ytfjognghjiifaaa", sum := "0237a5d179df074a3e7471f619414829e2157101fdb775d87800f581883fc05f", func := "carom/caromlaw29.ContactMaterial", spec := "contactMaterial", unfollowed := true, recurses := true, apart := false, narrowed := true }
def ContactMaterialUptoSaid : Prop := contactMaterialUptoRow.holds Try.pinned (OpenSpec.upto contactMaterialSpec)

/-- 'caromlaw29.ContactStore', WHERE WHAT IT READS IS OF BULK AT MOST 1048576: true; the input reads as it did. -/
def contactStoreUptoRow : OpenClaim := { program := "ytfjognghjiifaaa", sum := "0237a5d179df074a3e7471f619414829e2157101fdb775d87800f581883fc05f", func := "carom/caromlaw29.ContactStore", spec := "contactStore", unfollowed := true, recurses := true, apart := false, narrowed := true }
def ContactStoreUptoSaid : Prop := contactStoreUptoRow.holds Try.pinned (OpenSpec.upto contactStoreSpec)

/-- 'caromlaw29.ContactStoreRows', WHERE WHAT IT READS IS OF BULK AT MOST 1048576: true; the input reads as it did. -/
def contactStoreRowsUptoRow : OpenClaim := { program := "ytfjognghjiifaaa", sum := "0237a5d179df074a3e7471f619414829e2157101fdb775d87800f581883fc05f", func := "carom/caromlaw29.ContactStoreRows", spec := "contactStoreRows", unfollowed := true, recurses := true, apart := false, narrowed := true }
def ContactStoreRowsUptoSaid : Prop := contactStoreRowsUptoRow.holds Try.pinned (OpenSpec.upto contactStoreRowsSpec)

/-- 'caromlaw29.ContactMissingFixture', WHERE WHAT IT READS IS OF BULK AT MOST 1048576: true; the input reads as it did. -/
def contactMissingFixtureUptoRow : OpenClaim := { program := "ytfjognghjiifaaa", sum := "0237a5d179df074a3e7471f619414829e2157101fdb775d87800f581883fc05f", func := "carom/caromlaw29.ContactMissingFixture", spec := "contactMissingFixture", unfollowed := true, recurses := true, apart := false, narrowed := true }
def ContactMissingFixtureUptoSaid : Prop := contactMissingFixtureUptoRow.holds Try.pinned (OpenSpec.upto contactMissingFixtureSpec)

/-- 'caromlaw29.ContactFrictionBounds', WHERE WHAT IT READS IS OF BULK AT MOST 1048576: true; the input reads as it did. -/
def contactFrictionBoundsUptoRow : OpenClaim := { program := "ytfjognghjiifaaa", sum := "0237a5d179df074a3e7471f619414829e2157101fdb775d87800f581883fc05f", func := "carom/caromlaw29.ContactFrictionBounds", spec := "contactFrictionBounds", unfollowed := true, recurses := true, apart := false, narrowed := true }
def ContactFrictionBoundsUptoSaid : Prop := contactFrictionBoundsUptoRow.holds Try.pinned (OpenSpec.upto contactFrictionBoundsSpec)

/-- 'caromlaw29.ContactNeverPulls', WHERE WHAT IT READS IS OF BULK AT MOST 1048576: true; the input reads as it did. -/
def contactNeverPullsUptoRow : OpenClaim := { program := "ytfjognghjiifaaa", sum := "0237a5d179df074a3e7471f619414829e2157101fdb775d87800f581883fc05f", func := "carom/caromlaw29.ContactNeverPulls", spec := "contactNeverPulls", unfollowed := true, recurses := true, apart := false, narrowed := true }
def ContactNeverPullsUptoSaid : Prop := contactNeverPullsUptoRow.holds Try.pinned (OpenSpec.upto contactNeverPullsSpec)

end Rows
end Go.Proofs.Ytfjognghjiifaaa
