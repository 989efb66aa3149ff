/-
  No cell of these rows narrows 'for every input' (looked for: loops, veiled, ifaces, maps, wideKeys, modest, calm, conditions, laid).
  DERIVED. THE GIVEN ROWS OF THIS SEAT. 6 by the template 'for every input the law returns true; each argument reads behind the call as it read before'; 0 by the template 'total and deterministic' (their statements: YtleooijgkdllfaaTotals.lean).
  GIVEN WITH THE SEED: the statements are not yours to turn. If you find one false, say at which input.
  Laid BY PROGRAM, IN A SANDBOX (cutbox-rows.mjs): the forced cells as the released guide's own fill.sh prints them over the translation 9cb32e85aaa422b3… (all of the seat's roots in one cut). By AI agents, Wed Nov 11 2026. No macro, syntax, notation, axiom, sorry.
-/
import Derived.Test.YtleooijgkdllfaaChecked
import GoSem.Claim
import GoSem.ClaimJoined
import GoSem.ClaimMapViews
import Derived.JoinedTies
import Derived.KernelRfl
namespace Go.Proofs.Ytleooijgkdllfaa
/- THE CELL 'sum', in the pinned program and in every row, IS THE sha256 OF THE DUMP (.gsa) THAT YtleooijgkdllfaaProg.lean LOADS. Nothing in Lean hashes anything: it is a label: what it is worth is what the hold of that sum in a sandbox is worth. -/
noncomputable def Try.pinned : Pinned := { name := "ytleooijgkdllfaa", sum := "9cb32e85aaa422b30ea4e5186bd6ea9be165e46738ce36cf01b3a80dd9086251", checked := Try.checked }
namespace Rows
def none {H : Type} : Left H := { results := [], args := [] }

/-- 'caromlaw09.ChecksumSeal': WHATEVER THE INPUT: true; the input reads as it did. -/
def checksumSealSpec : ChangeSpec := { name := "checksumSeal", fn := fun _ => fun
  | [d] => { results := [.lit (.bool true)], args := [d] }
  | _ => none }
def checksumSealRow : OpenClaim := { program := "ytleooijgkdllfaa", sum := "9cb32e85aaa422b30ea4e5186bd6ea9be165e46738ce36cf01b3a80dd9086251", func := "carom/caromlaw09.ChecksumSeal", spec := "checksumSeal", apart := false }
def ChecksumSealSaid : Prop := checksumSealRow.holds Try.pinned (OpenSpec.ofChange checksumSealSpec)

/-- ITS FALSE NEIGHBOUR: 'it returns false'. Refute it at one input. -/
def checksumSealWrong : ChangeSpec := { name := "checksumSeal", fn := fun _ => fun
  | [d] => { results := [.lit (.bool false)], args := [d] }
  | _ => none }
def ChecksumSealWrongFalsely : Prop := checksumSealRow.holds Try.pinned (OpenSpec.ofChange checksumSealWrong)

/-- 'caromlaw09.ChecksumExact': WHATEVER THE INPUT: true; the input reads as it did. -/
def checksumExactSpec : ChangeSpec := { name := "checksumExact", fn := fun _ => fun
  | [d1, d2, d3] => { results := [.lit (.bool true)], args := [d1, d2, d3] }
  | _ => none }
def checksumExactRow : OpenClaim := { program := "ytleooijgkdllfaa", sum := "9cb32e85aaa422b30ea4e5186bd6ea9be165e46738ce36cf01b3a80dd9086251", func := "carom/caromlaw09.ChecksumExact", spec := "checksumExact", apart := false }
def ChecksumExactSaid : Prop := checksumExactRow.holds Try.pinned (OpenSpec.ofChange checksumExactSpec)

/-- ITS FALSE NEIGHBOUR: 'it returns false'. Refute it at one input. -/
def checksumExactWrong : ChangeSpec := { name := "checksumExact", fn := fun _ => fun
  | [d1, d2, d3] => { results := [.lit (.bool false)], args := [d1, d2, d3] }
  | _ => none }
def ChecksumExactWrongFalsely : Prop := checksumExactRow.holds Try.pinned (OpenSpec.ofChange checksumExactWrong)

/-- 'caromlaw09.ChecksumOpenExact': WHATEVER THE INPUT: true; the input reads as it did. -/
def checksumOpenExactSpec : ChangeSpec := { name := "checksumOpenExact", fn := fun _ => fun
  | [d] => { results := [.lit (.bool true)], args := [d] }
  | _ => none }
def checksumOpenExactRow : OpenClaim := { program := "ytleooijgkdllfaa", sum := "9cb32e85aaa422b30ea4e5186bd6ea9be165e46738ce36cf01b3a80dd9086251", func := "carom/caromlaw09.ChecksumOpenExact", spec := "checksumOpenExact", apart := false }
def ChecksumOpenExactSaid : Prop := checksumOpenExactRow.holds Try.pinned (OpenSpec.ofChange checksumOpenExactSpec)

/-- ITS FALSE NEIGHBOUR: 'it returns false'. Refute it at one input. -/
def checksumOpenExactWrong : ChangeSpec := { name := "checksumOpenExact", fn := fun _ => fun
  | [d] => { results := [.lit (.bool false)], args := [d] }
  | _ => none }
def ChecksumOpenExactWrongFalsely : Prop := checksumOpenExactRow.holds Try.pinned (OpenSpec.ofChange checksumOpenExactWrong)

/-- 'caromlaw09.ChecksumDetectsBursts': WHATEVER THE INPUT: true; the input reads as it did. -/
def checksumDetectsBurstsSpec : ChangeSpec := { name := "checksumDetectsBursts", fn := fun _ => fun
  | [d1, d2, d3] => { results := [.lit (.bool true)], args := [d1, d2, d3] }
  | _ => none }
def checksumDetectsBurstsRow : OpenClaim := { program := "ytleooijgkdllfaa", sum := "9cb32e85aaa422b30ea4e5186bd6ea9be165e46738ce36cf01b3a80dd9086251", func := "carom/caromlaw09.ChecksumDetectsBursts", spec := "checksumDetectsBursts", apart := false }
def ChecksumDetectsBurstsSaid : Prop := checksumDetectsBurstsRow.holds Try.pinned (OpenSpec.ofChange checksumDetectsBurstsSpec)

/-- ITS FALSE NEIGHBOUR: 'it returns false'. Refute it at one input. -/
def checksumDetectsBurstsWrong : ChangeSpec := { name := "checksumDetectsBursts", fn := fun _ => fun
  | [d1, d2, d3] => { results := [.lit (.bool false)], args := [d1, d2, d3] }
  | _ => none }
def ChecksumDetectsBurstsWrongFalsely : Prop := checksumDetectsBurstsRow.holds Try.pinned (OpenSpec.ofChange checksumDetectsBurstsWrong)

/-- 'caromlaw09.ChecksumMixInjective': WHATEVER THE INPUT: true; the input reads as it did. -/
def checksumMixInjectiveSpec : ChangeSpec := { name := "checksumMixInjective", fn := fun _ => fun
  | [d1, d2, d3] => { results := [.lit (.bool true)], args := [d1, d2, d3] }
  | _ => none }
def checksumMixInjectiveRow : OpenClaim := { program := "ytleooijgkdllfaa", sum := "9cb32e85aaa422b30ea4e5186bd6ea9be165e46738ce36cf01b3a80dd9086251", func := "carom/caromlaw09.ChecksumMixInjective", spec := "checksumMixInjective", apart := false }
def ChecksumMixInjectiveSaid : Prop := checksumMixInjectiveRow.holds Try.pinned (OpenSpec.ofChange checksumMixInjectiveSpec)

/-- ITS FALSE NEIGHBOUR: 'it returns false'. Refute it at one input. -/
def checksumMixInjectiveWrong : ChangeSpec := { name := "checksumMixInjective", fn := fun _ => fun
  | [d1, d2, d3] => { results := [.lit (.bool false)], args := [d1, d2, d3] }
  | _ => none }
def ChecksumMixInjectiveWrongFalsely : Prop := checksumMixInjectiveRow.holds Try.pinned (OpenSpec.ofChange checksumMixInjectiveWrong)

/-- 'caromlaw09.ChecksumHashSteps': WHATEVER THE INPUT: true; the input reads as it did. -/
def checksumHashStepsSpec : ChangeSpec := { name := "checksumHashSteps", fn := fun _ => fun
  | [d] => { results := [.lit (.bool true)], args := [d] }
  | _ => none }
def checksumHashStepsRow : OpenClaim := { program := "ytleooijgkdllfaa", sum := "9cb32e85aaa422b30ea4e5186bd6ea9be165e46738ce36cf01b3a80dd9086251", func := "carom/caromlaw09.ChecksumHashSteps", spec := "checksumHashSteps", apart := false }
def ChecksumHashStepsSaid : Prop := checksumHashStepsRow.holds Try.pinned (OpenSpec.ofChange checksumHashStepsSpec)

/-- ITS FALSE NEIGHBOUR: 'it returns false'. Refute it at one input. -/
def checksumHashStepsWrong : ChangeSpec := { name := "checksumHashSteps", fn := fun _ => fun
  | [d] => { results := [.lit (.bool false)], args := [d] }
  | _ => none }
def ChecksumHashStepsWrongFalsely : Prop := checksumHashStepsRow.holds Try.pinned (OpenSpec.ofChange checksumHashStepsWrong)

/- THE SECOND FORM. 'bulk': how many values and letters a reading holds, each counted each time it is reached (what is shared counts as often as it is met; a slice's spare places count too). A statement '..UptoSaid' is the law's where the arguments, and the package variables that the reading takes, are together of bulk at most 1048576: NARROWER than '..Said'. Prove '..Said' where nothing that the law and all that it calls make is longer than what came in: it says more and counts as full. Else prove '..UptoSaid'. A law counts once. -/
mutual
def uptoBulk {H : Type} : DataW H → Nat
  | .lit (.string bytes) => bytes.length + 1
  | .lit _ => 1
  | .nil => 1
  | .ptr d => uptoBulk d + 1
  | .slice elems spare => uptoBulkAll elems + uptoBulkAll spare + 1
  | .agg parts => uptoBulkAll parts + 1
  | .iface _ d => uptoBulk d + 1
  | .map entries => uptoBulkEntries entries + 1
  | .held _ => 1
def uptoBulkAll {H : Type} : List (DataW H) → Nat
  | [] => 0
  | d :: r => uptoBulk d + uptoBulkAll r
def uptoBulkEntries {H : Type} : List (Lit × DataW H) → Nat
  | [] => 0
  | x :: r => uptoBulkEntry x + uptoBulkEntries r
def uptoBulkEntry {H : Type} : Lit × DataW H → Nat
  | (.string bytes, d) => bytes.length + uptoBulk d + 1
  | (_, d) => uptoBulk d + 1
 end
def uptoSmall : (H : Type) → List (DataW H) → Bool := fun _ ds => decide (uptoBulkAll ds ≤ 1048576)
def OpenSpec.upto (s : _root_.Go.ChangeSpec) : _root_.Go.OpenSpec := { _root_.Go.OpenSpec.ofChange s with cond := some uptoSmall }

/-- 'caromlaw09.ChecksumSeal', WHERE WHAT IT READS IS OF BULK AT MOST 1048576: true; the input reads as it did. -/
def checksumSealUptoRow : OpenClaim := { program := "ytleooijgkdllfaa", sum := "9cb32e85aaa422b30ea4e5186bd6ea9be165e46738ce36cf01b3a80dd9086251", func := "carom/caromlaw09.ChecksumSeal", spec := "checksumSeal", apart := false, narrowed := true }
def ChecksumSealUptoSaid : Prop := checksumSealUptoRow.holds Try.pinned (OpenSpec.upto checksumSealSpec)

/-- 'caromlaw09.ChecksumExact', WHERE WHAT IT READS IS OF BULK AT MOST 1048576: true; the input reads as it did. -/
def checksumExactUptoRow : OpenClaim := { program := "ytleooijgkdllfaa", sum := "9cb32e85aaa422b30ea4e5186bd6ea9be165e46738ce36cf01b3a80dd9086251", func := "carom/caromlaw09.ChecksumExact", spec := "checksumExact", apart := false, narrowed := true }
def ChecksumExactUptoSaid : Prop := checksumExactUptoRow.holds Try.pinned (OpenSpec.upto checksumExactSpec)

/-- 'caromlaw09.ChecksumOpenExact', WHERE WHAT IT READS IS OF BULK AT MOST 1048576: true; the input reads as it did. -/
def checksumOpenExactUptoRow : OpenClaim := { program := "ytleooijgkdllfaa", sum := "9cb32e85aaa422b30ea4e5186bd6ea9be165e46738ce36cf01b3a80dd9086251", func := "carom/caromlaw09.ChecksumOpenExact", spec := "checksumOpenExact", apart := false, narrowed := true }
def ChecksumOpenExactUptoSaid : Prop := checksumOpenExactUptoRow.holds Try.pinned (OpenSpec.upto checksumOpenExactSpec)

/-- 'caromlaw09.ChecksumDetectsBursts', WHERE WHAT IT READS IS OF BULK AT MOST 1048576: true; the input reads as it did. -/
def checksumDetectsBurstsUptoRow : OpenClaim := { program := "ytleooijgkdllfaa", sum := "9cb32e85aaa422b30ea4e5186bd6ea9be165e46738ce36cf01b3a80dd9086251", func := "carom/caromlaw09.ChecksumDetectsBursts", spec := "checksumDetectsBursts", apart := false, narrowed := true }
def ChecksumDetectsBurstsUptoSaid : Prop := checksumDetectsBurstsUptoRow.holds Try.pinned (OpenSpec.upto checksumDetectsBurstsSpec)

/-- 'caromlaw09.ChecksumMixInjective', WHERE WHAT IT READS IS OF BULK AT MOST 1048576: true; the input reads as it did. -/
def checksumMixInjectiveUptoRow : OpenClaim := { program := "ytleooijgkdllfaa", sum := "9cb32e85aaa422b30ea4e5186bd6ea9be165e46738ce36cf01b3a80dd9086251", func := "carom/caromlaw09.ChecksumMixInjective", spec := "checksumMixInjective", apart := false, narrowed := true }
def ChecksumMixInjectiveUptoSaid : Prop := checksumMixInjectiveUptoRow.holds Try.pinned (OpenSpec.upto checksumMixInjectiveSpec)

/-- 'caromlaw09.ChecksumHashSteps', WHERE WHAT IT READS IS OF BULK AT MOST 1048576: true; the input reads as it did. -/
def checksumHashStepsUptoRow : OpenClaim := { program := "ytleooijgkdllfaa", sum := "9cb32e85aaa422b30ea4e5186bd6ea9be165e46738ce36cf01b3a80dd9086251", func := "carom/caromlaw09.ChecksumHashSteps", spec := "checksumHashSteps", apart := false, narrowed := true }
def ChecksumHashStepsUptoSaid : Prop := checksumHashStepsUptoRow.holds Try.pinned (OpenSpec.upto checksumHashStepsSpec)

end Rows
end Go.Proofs.Ytleooijgkdllfaa
