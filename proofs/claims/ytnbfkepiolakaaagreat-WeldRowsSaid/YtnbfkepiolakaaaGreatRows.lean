/-
  No cell of these rows narrows 'for every input' (looked for: loops, veiled, ifaces, maps, wideKeys, modest, calm, conditions, laid).
  DERIVED. THE GIVEN ROWS OF THIS SEAT. 2 by the template 'for every input the law returns true; each argument reads behind the call as it read before'; 0 by the template 'total and deterministic' (their statements: YtnbfkepiolakaaaGreatTotals.lean).
  GIVEN WITH THE SEED: the statements are not yours to turn. If you find one false, say at which input.
  Laid BY PROGRAM, IN A SANDBOX (cutbox-rows.mjs): the forced cells as the released guide's own fill.sh prints them over the translation 4200f840626c3ab4… (all of the seat's roots in one cut). By AI agents, Wed Nov 11 2026. No macro, syntax, notation, axiom, sorry.
-/
import Derived.Test.YtnbfkepiolakaaaGreatChecked
import GoSem.Claim
import GoSem.ClaimJoined
import GoSem.ClaimMapViews
import Derived.JoinedTies
import Derived.KernelRfl
namespace Go.Proofs.YtnbfkepiolakaaaGreat
/- THE CELL 'sum', in the pinned program and in every row, IS THE sha256 OF THE DUMP (.gsa) THAT YtnbfkepiolakaaaGreatProg.lean LOADS. Nothing in Lean hashes anything: it is a label: what it is worth is what the hold of that sum in a sandbox is worth. -/
noncomputable def Tryz.pinned : Pinned := { name := "ytnbfkepiolakaaagreat", sum := "4200f840626c3ab4e1cabee75881a605eb812b40ca929d80aee6ddbc2c49cb05", checked := Tryz.checked }
namespace Rows
def none {H : Type} : Left H := { results := [], args := [] }

/-- 'caromlaw33.WeldTargetRows': WHATEVER THE INPUT: true; the input reads as it did. -/
def weldTargetRowsSpec : ChangeSpec := { name := "weldTargetRows", fn := fun _ => fun
  | [d] => { results := [.lit (.bool true)], args := [d] }
  | _ => none }
def weldTargetRowsRow : OpenClaim := { program := "ytnbfkepiolakaaagreat", sum := "4200f840626c3ab4e1cabee75881a605eb812b40ca929d80aee6ddbc2c49cb05", func := "carom/caromlaw33.WeldTargetRows", spec := "weldTargetRows", unfollowed := true, recurses := true, apart := false }
def WeldTargetRowsSaid : Prop := weldTargetRowsRow.holds Tryz.pinned (OpenSpec.ofChange weldTargetRowsSpec)

/-- ITS FALSE NEIGHBOUR: 'it returns false'. Refute it at one input. -/
def weldTargetRowsWrong : ChangeSpec := { name := "weldTargetRows", fn := fun _ => fun
  | [d] => { results := [.lit (.bool false)], args := [d] }
  | _ => none }
def WeldTargetRowsWrongFalsely : Prop := weldTargetRowsRow.holds Tryz.pinned (OpenSpec.ofChange weldTargetRowsWrong)

/-- 'caromlaw33.WeldRows': WHATEVER THE INPUT: true; the input reads as it did. -/
def weldRowsSpec : ChangeSpec := { name := "weldRows", fn := fun _ => fun
  | [d] => { results := [.lit (.bool true)], args := [d] }
  | _ => none }
def weldRowsRow : OpenClaim := { program := "ytnbfkepiolakaaagreat", sum := "4200f840626c3ab4e1cabee75881a605eb812b40ca929d80aee6ddbc2c49cb05", func := "carom/caromlaw33.WeldRows", spec := "weldRows", unfollowed := true, recurses := true, apart := false }
def WeldRowsSaid : Prop := weldRowsRow.holds Tryz.pinned (OpenSpec.ofChange weldRowsSpec)

/-- ITS FALSE NEIGHBOUR: 'it returns false'. Refute it at one input. -/
def weldRowsWrong : ChangeSpec := { name := "weldRows", fn := fun _ => fun
  | [d] => { results := [.lit (.bool false)], args := [d] }
  | _ => none }
def WeldRowsWrongFalsely : Prop := weldRowsRow.holds Tryz.pinned (OpenSpec.ofChange weldRowsWrong)

/- THE SECOND FORM. 'bulk': how many values and letters a reading holds, each counted each time it is reached (what is shared counts as often as it is met; a slice's spare places count too). A statement '..UptoSaid' is the law's where the arguments, and the package variables that the reading takes, are together of bulk at most 1048576: NARROWER than '..Said'. Prove '..Said' where nothing that the law and all that it calls make is longer than what came in: it says more and counts as full. Else prove '..UptoSaid'. A law counts once. -/
mutual
def uptoBulk {H : Type} : DataW H → Nat
  | .lit (.string bytes) => bytes.length + 1
  | .lit _ => 1
  | .nil => 1
  | .ptr d => uptoBulk d + 1
  | .slice elems spare => uptoBulkAll elems + uptoBulkAll spare + 1
  | .agg parts => uptoBulkAll parts + 1
  | .iface _ d => uptoBulk d + 1
  | .map entries => uptoBulkEntries entries + 1
  | .held _ => 1
def uptoBulkAll {H : Type} : List (DataW H) → Nat
  | [] => 0
  | d :: r => uptoBulk d + uptoBulkAll r
def uptoBulkEntries {H : Type} : List (Lit × DataW H) → Nat
  | [] => 0
  | x :: r => uptoBulkEntry x + uptoBulkEntries r
def uptoBulkEntry {H : Type} : Lit × DataW H → Nat
  | (.string bytes, d) => bytes.length + uptoBulk d + 1
  | (_, d) => uptoBulk d + 1
 end
def uptoSmall : (H : Type) → List (DataW H) → Bool := fun _ ds => decide (uptoBulkAll ds ≤ 1048576)
def OpenSpec.upto (s : _root_.Go.ChangeSpec) : _root_.Go.OpenSpec := { _root_.Go.OpenSpec.ofChange s with cond := some uptoSmall }

/-- 'caromlaw33.WeldTargetRows', WHERE WHAT IT READS IS OF BULK AT MOST 1048576: true; the input reads as it did. -/
def weldTargetRowsUptoRow : OpenClaim := { program := "ytnbfkepiolakaaagreat", sum := "4200f840626c3ab4e1cabee75881a605eb812b40ca929d80aee6ddbc2c49cb05", func := "carom/caromlaw33.WeldTargetRows", spec := "weldTargetRows", unfollowed := true, recurses := true, apart := false, narrowed := true }
def WeldTargetRowsUptoSaid : Prop := weldTargetRowsUptoRow.holds Tryz.pinned (OpenSpec.upto weldTargetRowsSpec)

/-- 'caromlaw33.WeldRows', WHERE WHAT IT READS IS OF BULK AT MOST 1048576: true; the input reads as it did. -/
def weldRowsUptoRow : OpenClaim := { program := "ytnbfkepiolakaaagreat", sum := "4200f840626c3ab4e1cabee75881a605eb812b40ca929d80aee6ddbc2c49cb05", func := "carom/caromlaw33.WeldRows", spec := "weldRows", unfollowed := true, recurses := true, apart := false, narrowed := true }
def WeldRowsUptoSaid : Prop := weldRowsUptoRow.holds Tryz.pinned (OpenSpec.upto weldRowsSpec)

end Rows
end Go.Proofs.YtnbfkepiolakaaaGreat
