/-
  No cell of these rows narrows 'for every input' (looked for: loops, veiled, ifaces, maps, wideKeys, modest, calm, conditions, laid).
  DERIVED. THE GIVEN ROWS OF THIS SEAT. 2 by the template 'for every input the law returns true; each argument reads behind the call as it read before'; 0 by the template 'total and deterministic' (their statements: YthaoinkbblbijaaGreatTotals.lean).
  GIVEN WITH THE SEED: the statements are not yours to turn. If you find one false, say at which input.
  Laid BY PROGRAM, IN A SANDBOX (cutbox-rows.mjs): the forced cells as the released guide's own fill.sh prints them over the translation 7ca6668dafb1b9ea… (all of the seat's roots in one cut). By AI agents, Wed Nov 11 2026. No macro, syntax, notation, axiom, sorry.
-/
import Derived.Test.YthaoinkbblbijaaGreatChecked
import GoSem.Claim
import GoSem.ClaimJoined
import GoSem.ClaimMapViews
import Derived.JoinedTies
import Derived.KernelRfl
namespace Go.Proofs.YthaoinkbblbijaaGreat
/- THE CELL 'sum', in the pinned program and in every row, IS THE sha256 OF THE DUMP (.gsa) THAT YthaoinkbblbijaaGreatProg.lean LOADS. Nothing in Lean hashes anything: it is a label: what it is worth is what the hold of that sum in a sandbox is worth. -/
noncomputable def Tryz.pinned : Pinned := { name := "ythaoinkbblbijaagreat", sum := "7ca6668dafb1b9ea71cdd15cc53f03095cf98ecc54bdcacb03a4a5cb87f47499", checked := Tryz.checked }
namespace Rows
def none {H : Type} : Left H := { results := [], args := [] }

/-- 'caromlaw31.RevoluteRows': WHATEVER THE INPUT: true; the input reads as it did. -/
def revoluteRowsSpec : ChangeSpec := { name := "revoluteRows", fn := fun _ => fun
  | [d] => { results := [.lit (.bool true)], args := [d] }
  | _ => none }
def revoluteRowsRow : OpenClaim := { program := "ythaoinkbblbijaagreat", sum := "7ca6668dafb1b9ea71cdd15cc53f03095cf98ecc54bdcacb03a4a5cb87f47499", func := "carom/caromlaw31.RevoluteRows", spec := "revoluteRows", unfollowed := true, recurses := true, apart := false }
def RevoluteRowsSaid : Prop := revoluteRowsRow.holds Tryz.pinned (OpenSpec.ofChange revoluteRowsSpec)

/-- ITS FALSE NEIGHBOUR: 'it returns false'. Refute it at one input. -/
def revoluteRowsWrong : ChangeSpec := { name := "revoluteRows", fn := fun _ => fun
  | [d] => { results := [.lit (.bool false)], args := [d] }
  | _ => none }
def RevoluteRowsWrongFalsely : Prop := revoluteRowsRow.holds Tryz.pinned (OpenSpec.ofChange revoluteRowsWrong)

/-- 'caromlaw31.RevolutePoints': WHATEVER THE INPUT: true; the input reads as it did. -/
def revolutePointsSpec : ChangeSpec := { name := "revolutePoints", fn := fun _ => fun
  | [d] => { results := [.lit (.bool true)], args := [d] }
  | _ => none }
def revolutePointsRow : OpenClaim := { program := "ythaoinkbblbijaagreat", sum := "7ca6668dafb1b9ea71cdd15cc53f03095cf98ecc54bdcacb03a4a5cb87f47499", func := "carom/caromlaw31.RevolutePoints", spec := "revolutePoints", unfollowed := true, recurses := true, apart := false }
def RevolutePointsSaid : Prop := revolutePointsRow.holds Tryz.pinned (OpenSpec.ofChange revolutePointsSpec)

/-- ITS FALSE NEIGHBOUR: 'it returns false'. Refute it at one input. -/
def revolutePointsWrong : ChangeSpec := { name := "revolutePoints", fn := fun _ => fun
  | [d] => { results := [.lit (.bool false)], args := [d] }
  | _ => none }
def RevolutePointsWrongFalsely : Prop := revolutePointsRow.holds Tryz.pinned (OpenSpec.ofChange revolutePointsWrong)

/- THE SECOND FORM. 'bulk': how many values and letters a reading holds, each counted each time it is reached (what is shared counts as often as it is met; a slice's spare places count too). A statement '..UptoSaid' is the law's where the arguments, and the package variables that the reading takes, are together of bulk at most 1048576: NARROWER than '..Said'. Prove '..Said' where nothing that the law and all that it calls make is longer than what came in: it says more and counts as full. Else prove '..UptoSaid'. A law counts once. -/
mutual
def uptoBulk {H : Type} : DataW H → Nat
  | .lit (.string bytes) => bytes.length + 1
  | .lit _ => 1
  | .nil => 1
  | .ptr d => uptoBulk d + 1
  | .slice elems spare => uptoBulkAll elems + uptoBulkAll spare + 1
  | .agg parts => uptoBulkAll parts + 1
  | .iface _ d => uptoBulk d + 1
  | .map entries => uptoBulkEntries entries + 1
  | .held _ => 1
def uptoBulkAll {H : Type} : List (DataW H) → Nat
  | [] => 0
  | d :: r => uptoBulk d + uptoBulkAll r
def uptoBulkEntries {H : Type} : List (Lit × DataW H) → Nat
  | [] => 0
  | x :: r => uptoBulkEntry x + uptoBulkEntries r
def uptoBulkEntry {H : Type} : Lit × DataW H → Nat
  | (.string bytes, d) => bytes.length + uptoBulk d + 1
  | (_, d) => uptoBulk d + 1
 end
def uptoSmall : (H : Type) → List (DataW H) → Bool := fun _ ds => decide (uptoBulkAll ds ≤ 1048576)
def OpenSpec.upto (s : _root_.Go.ChangeSpec) : _root_.Go.OpenSpec := { _root_.Go.OpenSpec.ofChange s with cond := some uptoSmall }

/-- 'caromlaw31.RevoluteRows', WHERE WHAT IT READS IS OF BULK AT MOST 1048576: true; the input reads as it did. -/
def revoluteRowsUptoRow : OpenClaim := { program := "ythaoinkbblbijaagreat", sum := "7ca6668dafb1b9ea71cdd15cc53f03095cf98ecc54bdcacb03a4a5cb87f47499", func := "carom/caromlaw31.RevoluteRows", spec := "revoluteRows", unfollowed := true, recurses := true, apart := false, narrowed := true }
def RevoluteRowsUptoSaid : Prop := revoluteRowsUptoRow.holds Tryz.pinned (OpenSpec.upto revoluteRowsSpec)

/-- 'caromlaw31.RevolutePoints', WHERE WHAT IT READS IS OF BULK AT MOST 1048576: true; the input reads as it did. -/
def revolutePointsUptoRow : OpenClaim := { program := "ythaoinkbblbijaagreat", sum := "7ca6668dafb1b9ea71cdd15cc53f03095cf98ecc54bdcacb03a4a5cb87f47499", func := "carom/caromlaw31.RevolutePoints", spec := "revolutePoints", unfollowed := true, recurses := true, apart := false, narrowed := true }
def RevolutePointsUptoSaid : Prop := revolutePointsUptoRow.holds Tryz.pinned (OpenSpec.upto revolutePointsSpec)

end Rows
end Go.Proofs.YthaoinkbblbijaaGreat
