/-
  No cell of these rows narrows 'for every input' (looked for: loops, veiled, ifaces, maps, wideKeys, modest, calm, conditions, laid).
  DERIVED. THE GIVEN ROWS OF THIS SEAT. 3 by the template 'for every input the law returns true; each argument reads behind the call as it read before'; 0 by the template 'total and deterministic' (their statements: YtmlppmjmgfklnaaGreatTotals.lean).
  GIVEN WITH THE SEED: the statements are not yours to turn. If you find one false, say at which input.
  Laid BY PROGRAM, IN A SANDBOX (cutbox-rows.mjs): the forced cells as the released guide's own fill.sh prints them over the translation 96c964d3bb92b80c… (all of the seat's roots in one cut). By AI agents, Wed Nov 11 2026. No macro, syntax, notation, axiom, sorry.
-/
import Derived.Test.YtmlppmjmgfklnaaGreatChecked
import GoSem.Claim
import GoSem.ClaimJoined
import GoSem.ClaimMapViews
import Derived.JoinedTies
import Derived.KernelRfl
namespace Go.Proofs.YtmlppmjmgfklnaaGreat
/- THE CELL 'sum', in the pinned program and in every row, IS THE sha256 OF THE DUMP (.gsa) THAT YtmlppmjmgfklnaaGreatProg.lean LOADS. Nothing in Lean hashes anything: it is a label: what it is worth is what the hold of that sum in a sandbox is worth. -/
noncomputable def Tryz.pinned : Pinned := { name := "ytmlppmjmgfklnaagreat", sum := "96c964d3bb92b80c1c4c20413b7534497efc94329fc2414558d9c68b1a1d9ab4", checked := Tryz.checked }
namespace Rows
def none {H : Type} : Left H := { results := [], args := [] }

/-- 'caromlaw32.PrismaticRows': WHATEVER THE INPUT: true; the input reads as it did. -/
def prismaticRowsSpec : ChangeSpec := { name := "prismaticRows", fn := fun _ => fun
  | [d1, d2, d3, d4, d5] => { results := [.lit (.bool true)], args := [d1, d2, d3, d4, d5] }
  | _ => none }
def prismaticRowsRow : OpenClaim := { program := "ytmlppmjmgfklnaagreat", sum := "96c964d3bb92b80c1c4c20413b7534497efc94329fc2414558d9c68b1a1d9ab4", func := "carom/caromlaw32.PrismaticRows", spec := "prismaticRows", unfollowed := true, recurses := true, apart := false }
def PrismaticRowsSaid : Prop := prismaticRowsRow.holds Tryz.pinned (OpenSpec.ofChange prismaticRowsSpec)

/-- ITS FALSE NEIGHBOUR: 'it returns false'. Refute it at one input. -/
def prismaticRowsWrong : ChangeSpec := { name := "prismaticRows", fn := fun _ => fun
  | [d1, d2, d3, d4, d5] => { results := [.lit (.bool false)], args := [d1, d2, d3, d4, d5] }
  | _ => none }
def PrismaticRowsWrongFalsely : Prop := prismaticRowsRow.holds Tryz.pinned (OpenSpec.ofChange prismaticRowsWrong)

/-- 'caromlaw32.PrismaticAxisRow': WHATEVER THE INPUT: true; the input reads as it did. -/
def prismaticAxisRowSpec : ChangeSpec := { name := "prismaticAxisRow", fn := fun _ => fun
  | [d1, d2, d3, d4, d5] => { results := [.lit (.bool true)], args := [d1, d2, d3, d4, d5] }
  | _ => none }
def prismaticAxisRowRow : OpenClaim := { program := "ytmlppmjmgfklnaagreat", sum := "96c964d3bb92b80c1c4c20413b7534497efc94329fc2414558d9c68b1a1d9ab4", func := "carom/caromlaw32.PrismaticAxisRow", spec := "prismaticAxisRow", unfollowed := true, recurses := true, apart := false }
def PrismaticAxisRowSaid : Prop := prismaticAxisRowRow.holds Tryz.pinned (OpenSpec.ofChange prismaticAxisRowSpec)

/-- ITS FALSE NEIGHBOUR: 'it returns false'. Refute it at one input. -/
def prismaticAxisRowWrong : ChangeSpec := { name := "prismaticAxisRow", fn := fun _ => fun
  | [d1, d2, d3, d4, d5] => { results := [.lit (.bool false)], args := [d1, d2, d3, d4, d5] }
  | _ => none }
def PrismaticAxisRowWrongFalsely : Prop := prismaticAxisRowRow.holds Tryz.pinned (OpenSpec.ofChange prismaticAxisRowWrong)

/-- 'caromlaw32.PrismaticTranslationInvariant': WHATEVER THE INPUT: true; the input reads as it did. -/
def prismaticTranslationInvariantSpec : ChangeSpec := { name := "prismaticTranslationInvariant", fn := fun _ => fun
  | [d1, d2, d3, d4, d5] => { results := [.lit (.bool true)], args := [d1, d2, d3, d4, d5] }
  | _ => none }
def prismaticTranslationInvariantRow : OpenClaim := { program := "ytmlppmjmgfklnaagreat", sum := "96c964d3bb92b80c1c4c20413b7534497efc94329fc2414558d9c68b1a1d9ab4", func := "carom/caromlaw32.PrismaticTranslationInvariant", spec := "prismaticTranslationInvariant", unfollowed := true, recurses := true, apart := false }
def PrismaticTranslationInvariantSaid : Prop := prismaticTranslationInvariantRow.holds Tryz.pinned (OpenSpec.ofChange prismaticTranslationInvariantSpec)

/-- ITS FALSE NEIGHBOUR: 'it returns false'. Refute it at one input. -/
def prismaticTranslationInvariantWrong : ChangeSpec := { name := "prismaticTranslationInvariant", fn := fun _ => fun
  | [d1, d2, d3, d4, d5] => { results := [.lit (.bool false)], args := [d1, d2, d3, d4, d5] }
  | _ => none }
def PrismaticTranslationInvariantWrongFalsely : Prop := prismaticTranslationInvariantRow.holds Tryz.pinned (OpenSpec.ofChange prismaticTranslationInvariantWrong)

/- THE SECOND FORM. 'bulk': how many values and letters a reading holds, each counted each time it is reached (what is shared counts as often as it is met; a slice's spare places count too). A statement '..UptoSaid' is the law's where the arguments, and the package variables that the reading takes, are together of bulk at most 1048576: NARROWER than '..Said'. Prove '..Said' where nothing that the law and all that it calls make is longer than what came in: it says more and counts as full. Else prove '..UptoSaid'. A law counts once. -/
mutual
def uptoBulk {H : Type} : DataW H → Nat
  | .lit (.string bytes) => bytes.length + 1
  | .lit _ => 1
  | .nil => 1
  | .ptr d => uptoBulk d + 1
  | .slice elems spare => uptoBulkAll elems + uptoBulkAll spare + 1
  | .agg parts => uptoBulkAll parts + 1
  | .iface _ d => uptoBulk d + 1
  | .map entries => uptoBulkEntries entries + 1
  | .held _ => 1
def uptoBulkAll {H : Type} : List (DataW H) → Nat
  | [] => 0
  | d :: r => uptoBulk d + uptoBulkAll r
def uptoBulkEntries {H : Type} : List (Lit × DataW H) → Nat
  | [] => 0
  | x :: r => uptoBulkEntry x + uptoBulkEntries r
def uptoBulkEntry {H : Type} : Lit × DataW H → Nat
  | (.string bytes, d) => bytes.length + uptoBulk d + 1
  | (_, d) => uptoBulk d + 1
 end
def uptoSmall : (H : Type) → List (DataW H) → Bool := fun _ ds => decide (uptoBulkAll ds ≤ 1048576)
def OpenSpec.upto (s : _root_.Go.ChangeSpec) : _root_.Go.OpenSpec := { _root_.Go.OpenSpec.ofChange s with cond := some uptoSmall }

/-- 'caromlaw32.PrismaticRows', WHERE WHAT IT READS IS OF BULK AT MOST 1048576: true; the input reads as it did. -/
def prismaticRowsUptoRow : OpenClaim := { program := "ytmlppmjmgfklnaagreat", sum := "96c964d3bb92b80c1c4c20413b7534497efc94329fc2414558d9c68b1a1d9ab4", func := "carom/caromlaw32.PrismaticRows", spec := "prismaticRows", unfollowed := true, recurses := true, apart := false, narrowed := true }
def PrismaticRowsUptoSaid : Prop := prismaticRowsUptoRow.holds Tryz.pinned (OpenSpec.upto prismaticRowsSpec)

/-- 'caromlaw32.PrismaticAxisRow', WHERE WHAT IT READS IS OF BULK AT MOST 1048576: true; the input reads as it did. -/
def prismaticAxisRowUptoRow : OpenClaim := { program := "ytmlppmjmgfklnaagreat", sum := "96c964d3bb92b80c1c4c20413b7534497efc94329fc2414558d9c68b1a1d9ab4", func := "carom/caromlaw32.PrismaticAxisRow", spec := "prismaticAxisRow", unfollowed := true, recurses := true, apart := false, narrowed := true }
def PrismaticAxisRowUptoSaid : Prop := prismaticAxisRowUptoRow.holds Tryz.pinned (OpenSpec.upto prismaticAxisRowSpec)

/-- 'caromlaw32.PrismaticTranslationInvariant', WHERE WHAT IT READS IS OF BULK AT MOST 1048576: true; the input reads as it did. -/
def prismaticTranslationInvariantUptoRow : OpenClaim := { program := "ytmlppmjmgfklnaagreat", sum := "96c964d3bb92b80c1c4c20413b7534497efc94329fc2414558d9c68b1a1d9ab4", func := "carom/caromlaw32.PrismaticTranslationInvariant", spec := "prismaticTranslationInvariant", unfollowed := true, recurses := true, apart := false, narrowed := true }
def PrismaticTranslationInvariantUptoSaid : Prop := prismaticTranslationInvariantUptoRow.holds Tryz.pinned (OpenSpec.upto prismaticTranslationInvariantSpec)

end Rows
end Go.Proofs.YtmlppmjmgfklnaaGreat
