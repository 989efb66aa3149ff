/-
  No cell of these rows narrows 'for every input' (looked for: loops, veiled, ifaces, maps, wideKeys, modest, calm, conditions, laid).
  DERIVED. THE GIVEN ROWS OF THIS SEAT. 3 by the template 'for every input the law returns true; each argument reads behind the call as it read before'; 0 by the template 'total and deterministic' (their statements: YtnbfkepiolakaaaTotals.lean).
  GIVEN WITH THE SEED: the statements are not yours to turn. If you find one false, say at which input.
  Laid BY PROGRAM, IN A SANDBOX (cutbox-rows.mjs): the forced cells as the released guide's own fill.sh prints them over the translation 19e94fb3fe5b702a… (all of the seat's roots in one cut). By AI agents, Wed Nov 11 2026. No macro, syntax, notation, axiom, sorry.
-/
import Derived.Test.YtnbfkepiolakaaaChecked
import GoSem.Claim
import GoSem.ClaimJoined
import GoSem.ClaimMapViews
import Derived.JoinedTies
import Derived.KernelRfl
namespace Go.Proofs.Ytnbfkepiolakaaa
/- THE CELL 'sum', in the pinned program and in every row, IS THE sha256 OF THE DUMP (.gsa) THAT YtnbfkepiolakaaaProg.lean LOADS. Nothing in Lean hashes anything: it is a label: what it is worth is what the hold of that sum in a sandbox is worth. -/
noncomputable def Try.pinned : Pinned := { name := "ytnbfkepiolakaaa", sum := "19e94fb3fe5b702a74001835d25f122ae0d565e93ac0a5636760a5e6e5e4480f", checked := Try.checked }
namespace Rows
def none {H : Type} : Left H := { results := [], args := [] }

/-- 'caromlaw33.WeldAnchorError': WHATEVER THE INPUT: true; the input reads as it did. -/
def weldAnchorErrorSpec : ChangeSpec := { name := "weldAnchorError", fn := fun _ => fun
  | [d] => { results := [.lit (.bool true)], args := [d] }
  | _ => none }
def weldAnchorErrorRow : OpenClaim := { program := "ytnbfkepiolakaaa", sum := "19e94fb3fe5b702a74001835d25f122ae0d565e93ac0a5636760a5e6e5e4480f", func := "carom/caromlaw33.WeldAnchorError", spec := "weldAnchorError", unfollowed := true, recurses := true, apart := false }
def WeldAnchorErrorSaid : Prop := weldAnchorErrorRow.holds Try.pinned (OpenSpec.ofChange weldAnchorErrorSpec)

/-- ITS FALSE NEIGHBOUR: 'it returns false'. Refute it at one input. -/
def weldAnchorErrorWrong : ChangeSpec := { name := "weldAnchorError", fn := fun _ => fun
  | [d] => { results := [.lit (.bool false)], args := [d] }
  | _ => none }
def WeldAnchorErrorWrongFalsely : Prop := weldAnchorErrorRow.holds Try.pinned (OpenSpec.ofChange weldAnchorErrorWrong)

/-- 'caromlaw33.WeldRowCounts': WHATEVER THE INPUT: true; the input reads as it did. -/
def weldRowCountsSpec : ChangeSpec := { name := "weldRowCounts", fn := fun _ => fun
  | [d] => { results := [.lit (.bool true)], args := [d] }
  | _ => none }
def weldRowCountsRow : OpenClaim := { program := "ytnbfkepiolakaaa", sum := "19e94fb3fe5b702a74001835d25f122ae0d565e93ac0a5636760a5e6e5e4480f", func := "carom/caromlaw33.WeldRowCounts", spec := "weldRowCounts", unfollowed := true, recurses := true, apart := false }
def WeldRowCountsSaid : Prop := weldRowCountsRow.holds Try.pinned (OpenSpec.ofChange weldRowCountsSpec)

/-- ITS FALSE NEIGHBOUR: 'it returns false'. Refute it at one input. -/
def weldRowCountsWrong : ChangeSpec := { name := "weldRowCounts", fn := fun _ => fun
  | [d] => { results := [.lit (.bool false)], args := [d] }
  | _ => none }
def WeldRowCountsWrongFalsely : Prop := weldRowCountsRow.holds Try.pinned (OpenSpec.ofChange weldRowCountsWrong)

/-- 'caromlaw33.WeldTargetForceLimit': WHATEVER THE INPUT: true; the input reads as it did. -/
def weldTargetForceLimitSpec : ChangeSpec := { name := "weldTargetForceLimit", fn := fun _ => fun
  | [d1, d2] => { results := [.lit (.bool true)], args := [d1, d2] }
  | _ => none }
def weldTargetForceLimitRow : OpenClaim := { program := "ytnbfkepiolakaaa", sum := "19e94fb3fe5b702a74001835d25f122ae0d565e93ac0a5636760a5e6e5e4480f", func := "carom/caromlaw33.WeldTargetForceLimit", spec := "weldTargetForceLimit", unfollowed := true, recurses := true, apart := false }
def WeldTargetForceLimitSaid : Prop := weldTargetForceLimitRow.holds Try.pinned (OpenSpec.ofChange weldTargetForceLimitSpec)

/-- ITS FALSE NEIGHBOUR: 'it returns false'. Refute it at one input. -/
def weldTargetForceLimitWrong : ChangeSpec := { name := "weldTargetForceLimit", fn := fun _ => fun
  | [d1, d2] => { results := [.lit (.bool false)], args := [d1, d2] }
  | _ => none }
def WeldTargetForceLimitWrongFalsely : Prop := weldTargetForceLimitRow.holds Try.pinned (OpenSpec.ofChange weldTargetForceLimitWrong)

/- THE SECOND FORM. 'bulk': how many values and letters a reading holds, each counted each time it is reached (what is shared counts as often as it is met; a slice's spare places count too). A statement '..UptoSaid' is the law's where the arguments, and the package variables that the reading takes, are together of bulk at most 1048576: NARROWER than '..Said'. Prove '..Said' where nothing that the law and all that it calls make is longer than what came in: it says more and counts as full. Else prove '..UptoSaid'. A law counts once. -/
mutual
def uptoBulk {H : Type} : DataW H → Nat
  | .lit (.string bytes) => bytes.length + 1
  | .lit _ => 1
  | .nil => 1
  | .ptr d => uptoBulk d + 1
  | .slice elems spare => uptoBulkAll elems + uptoBulkAll spare + 1
  | .agg parts => uptoBulkAll parts + 1
  | .iface _ d => uptoBulk d + 1
  | .map entries => uptoBulkEntries entries + 1
  | .held _ => 1
def uptoBulkAll {H : Type} : List (DataW H) → Nat
  | [] => 0
  | d :: r => uptoBulk d + uptoBulkAll r
def uptoBulkEntries {H : Type} : List (Lit × DataW H) → Nat
  | [] => 0
  | x :: r => uptoBulkEntry x + uptoBulkEntries r
def uptoBulkEntry {H : Type} : Lit × DataW H → Nat
  | (.string bytes, d) => bytes.length + uptoBulk d + 1
  | (_, d) => uptoBulk d + 1
 end
def uptoSmall : (H : Type) → List (DataW H) → Bool := fun _ ds => decide (uptoBulkAll ds ≤ 1048576)
def OpenSpec.upto (s : _root_.Go.ChangeSpec) : _root_.Go.OpenSpec := { _root_.Go.OpenSpec.ofChange s with cond := some uptoSmall }

/-- 'caromlaw33.WeldAnchorError', WHERE WHAT IT READS IS OF BULK AT MOST 1048576: true; the input reads as it did. -/
def weldAnchorErrorUptoRow : OpenClaim := { program := "ytnbfkepiolakaaa", sum := "19e94fb3fe5b702a74001835d25f122ae0d565e93ac0a5636760a5e6e5e4480f", func := "carom/caromlaw33.WeldAnchorError", spec := "weldAnchorError", unfollowed := true, recurses := true, apart := false, narrowed := true }
def WeldAnchorErrorUptoSaid : Prop := weldAnchorErrorUptoRow.holds Try.pinned (OpenSpec.upto weldAnchorErrorSpec)

/-- 'caromlaw33.WeldRowCounts', WHERE WHAT IT READS IS OF BULK AT MOST 1048576: true; the input reads as it did. -/
def weldRowCountsUptoRow : OpenClaim := { program := "ytnbfkepiolakaaa", sum := "19e94fb3fe5b702a74001835d25f122ae0d565e93ac0a5636760a5e6e5e4480f", func := "carom/caromlaw33.WeldRowCounts", spec := "weldRowCounts", unfollowed := true, recurses := true, apart := false, narrowed := true }
def WeldRowCountsUptoSaid : Prop := weldRowCountsUptoRow.holds Try.pinned (OpenSpec.upto weldRowCountsSpec)

/-- 'caromlaw33.WeldTargetForceLimit', WHERE WHAT IT READS IS OF BULK AT MOST 1048576: true; the input reads as it did. -/
def weldTargetForceLimitUptoRow : OpenClaim := { program := "ytnbfkepiolakaaa", sum := "19e94fb3fe5b702a74001835d25f122ae0d565e93ac0a5636760a5e6e5e4480f", func := "carom/caromlaw33.WeldTargetForceLimit", spec := "weldTargetForceLimit", unfollowed := true, recurses := true, apart := false, narrowed := true }
def WeldTargetForceLimitUptoSaid : Prop := weldTargetForceLimitUptoRow.holds Try.pinned (OpenSpec.upto weldTargetForceLimitSpec)

end Rows
end Go.Proofs.Ytnbfkepiolakaaa
