/-
  No cell of these rows narrows 'for every input' (looked for: loops, veiled, ifaces, maps, wideKeys, modest, calm, conditions, laid).
  DERIVED. THE GIVEN ROWS OF THIS SEAT. 2 by the template 'for every input the law returns true; each argument reads behind the call as it read before'; 0 by the template 'total and deterministic' (their statements: YtpolkkblmcmlnaaGreatTotals.lean).
  GIVEN WITH THE SEED: the statements are not yours to turn. If you find one false, say at which input.
  Laid BY PROGRAM, IN A SANDBOX (cutbox-rows.mjs): the forced cells as the released guide's own fill.sh prints them over the translation 0726fcd0cb9c3802… (all of the seat's roots in one cut). By AI agents, Wed Nov 11 2026. No macro, syntax, notation, axiom, sorry.
-/
import Derived.Test.YtpolkkblmcmlnaaGreatChecked
import GoSem.Claim
import GoSem.ClaimJoined
import GoSem.ClaimMapViews
import Derived.JoinedTies
import Derived.KernelRfl
namespace Go.Proofs.YtpolkkblmcmlnaaGreat
/- THE CELL 'sum', in the pinned program and in every row, IS THE sha256 OF THE DUMP (.gsa) THAT YtpolkkblmcmlnaaGreatProg.lean LOADS. Nothing in Lean hashes anything: it is a label: what it is worth is what the hold of that sum in a sandbox is worth. -/
noncomputable def Tryz.pinned : Pinned := { name := "ytpolkkblmcmlnaagreat", sum := "0726fcd0cb9c3802c4c602aac8646895a79e7b2bfc66f5aa2fcb74e41f5b7072", checked := Tryz.checked }
namespace Rows
def none {H : Type} : Left H := { results := [], args := [] }

/-- 'caromlaw30.DistanceJointRows': WHATEVER THE INPUT: true; the input reads as it did. -/
def distanceJointRowsSpec : ChangeSpec := { name := "distanceJointRows", fn := fun _ => fun
  | [d] => { results := [.lit (.bool true)], args := [d] }
  | _ => none }
def distanceJointRowsRow : OpenClaim := { program := "ytpolkkblmcmlnaagreat", sum := "0726fcd0cb9c3802c4c602aac8646895a79e7b2bfc66f5aa2fcb74e41f5b7072", func := "carom/caromlaw30.DistanceJointRows", spec := "distanceJointRows", unfollowed := true, recurses := true, apart := false }
def DistanceJointRowsSaid : Prop := distanceJointRowsRow.holds Tryz.pinned (OpenSpec.ofChange distanceJointRowsSpec)

/-- ITS FALSE NEIGHBOUR: 'it returns false'. Refute it at one input. -/
def distanceJointRowsWrong : ChangeSpec := { name := "distanceJointRows", fn := fun _ => fun
  | [d] => { results := [.lit (.bool false)], args := [d] }
  | _ => none }
def DistanceJointRowsWrongFalsely : Prop := distanceJointRowsRow.holds Tryz.pinned (OpenSpec.ofChange distanceJointRowsWrong)

/-- 'caromlaw30.DistanceJointPointRow': WHATEVER THE INPUT: true; the input reads as it did. -/
def distanceJointPointRowSpec : ChangeSpec := { name := "distanceJointPointRow", fn := fun _ => fun
  | [d1, d2] => { results := [.lit (.bool true)], args := [d1, d2] }
  | _ => none }
def distanceJointPointRowRow : OpenClaim := { program := "ytpolkkblmcmlnaagreat", sum := "0726fcd0cb9c3802c4c602aac8646895a79e7b2bfc66f5aa2fcb74e41f5b7072", func := "carom/caromlaw30.DistanceJointPointRow", spec := "distanceJointPointRow", unfollowed := true, recurses := true, apart := false }
def DistanceJointPointRowSaid : Prop := distanceJointPointRowRow.holds Tryz.pinned (OpenSpec.ofChange distanceJointPointRowSpec)

/-- ITS FALSE NEIGHBOUR: 'it returns false'. Refute it at one input. -/
def distanceJointPointRowWrong : ChangeSpec := { name := "distanceJointPointRow", fn := fun _ => fun
  | [d1, d2] => { results := [.lit (.bool false)], args := [d1, d2] }
  | _ => none }
def DistanceJointPointRowWrongFalsely : Prop := distanceJointPointRowRow.holds Tryz.pinned (OpenSpec.ofChange distanceJointPointRowWrong)

/- THE SECOND FORM. 'bulk': how many values and letters a reading holds, each counted each time it is reached (what is shared counts as often as it is met; a slice's spare places count too). A statement '..UptoSaid' is the law's where the arguments, and the package variables that the reading takes, are together of bulk at most 1048576: NARROWER than '..Said'. Prove '..Said' where nothing that the law and all that it calls make is longer than what came in: it says more and counts as full. Else prove '..UptoSaid'. A law counts once. -/
mutual
def uptoBulk {H : Type} : DataW H → Nat
  | .lit (.string bytes) => bytes.length + 1
  | .lit _ => 1
  | .nil => 1
  | .ptr d => uptoBulk d + 1
  | .slice elems spare => uptoBulkAll elems + uptoBulkAll spare + 1
  | .agg parts => uptoBulkAll parts + 1
  | .iface _ d => uptoBulk d + 1
  | .map entries => uptoBulkEntries entries + 1
  | .held _ => 1
def uptoBulkAll {H : Type} : List (DataW H) → Nat
  | [] => 0
  | d :: r => uptoBulk d + uptoBulkAll r
def uptoBulkEntries {H : Type} : List (Lit × DataW H) → Nat
  | [] => 0
  | x :: r => uptoBulkEntry x + uptoBulkEntries r
def uptoBulkEntry {H : Type} : Lit × DataW H → Nat
  | (.string bytes, d) => bytes.length + uptoBulk d + 1
  | (_, d) => uptoBulk d + 1
 end
def uptoSmall : (H : Type) → List (DataW H) → Bool := fun _ ds => decide (uptoBulkAll ds ≤ 1048576)
def OpenSpec.upto (s : _root_.Go.ChangeSpec) : _root_.Go.OpenSpec := { _root_.Go.OpenSpec.ofChange s with cond := some uptoSmall }

/-- 'caromlaw30.DistanceJointRows', WHERE WHAT IT READS IS OF BULK AT MOST 1048576: true; the input reads as it did. -/
def distanceJointRowsUptoRow : OpenClaim := { program := "ytpolkkblmcmlnaagreat", sum := "0726fcd0cb9c3802c4c602aac8646895a79e7b2bfc66f5aa2fcb74e41f5b7072", func := "carom/caromlaw30.DistanceJointRows", spec := "distanceJointRows", unfollowed := true, recurses := true, apart := false, narrowed := true }
def DistanceJointRowsUptoSaid : Prop := distanceJointRowsUptoRow.holds Tryz.pinned (OpenSpec.upto distanceJointRowsSpec)

/-- 'caromlaw30.DistanceJointPointRow', WHERE WHAT IT READS IS OF BULK AT MOST 1048576: true; the input reads as it did. -/
def distanceJointPointRowUptoRow : OpenClaim := { program := "ytpolkkblmcmlnaagreat", sum := "0726fcd0cb9c3802c4c602aac8646895a79e7b2bfc66f5aa2fcb74e41f5b7072", func := "carom/caromlaw30.DistanceJointPointRow", spec := "distanceJointPointRow", unfollowed := true, recurses := true, apart := false, narrowed := true }
def DistanceJointPointRowUptoSaid : Prop := distanceJointPointRowUptoRow.holds Tryz.pinned (OpenSpec.upto distanceJointPointRowSpec)

end Rows
end Go.Proofs.YtpolkkblmcmlnaaGreat
