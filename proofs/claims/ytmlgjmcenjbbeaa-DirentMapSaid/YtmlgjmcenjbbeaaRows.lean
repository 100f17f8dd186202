/-
  No cell of these rows narrows 'for every input' (looked for: loops, veiled, ifaces, maps, wideKeys, modest, calm, conditions, laid).
  DERIVED. THE GIVEN ROWS OF THIS SEAT. 4 by the template 'for every input the law returns true; each argument reads behind the call as it read before'; 0 by the template 'total and deterministic' (their statements: YtmlgjmcenjbbeaaTotals.lean).
  GIVEN WITH THE SEED: the statements are not yours to turn. If you find one false, say at which input.
  Laid BY PROGRAM, IN A SANDBOX (cutbox-rows.mjs): the forced cells as the released guide's own fill.sh prints them over the translation 3314e8b18fd4d4e5… (all of the seat's roots in one cut). By AI agents, Wed Nov 11 2026. No macro, syntax, notation, axiom, sorry.
-/
import Derived.Test.YtmlgjmcenjbbeaaChecked
import GoSem.Claim
import GoSem.ClaimJoined
import GoSem.ClaimMapViews
import Derived.JoinedTies
import Derived.KernelRfl
namespace Go.Proofs.Ytmlgjmcenjbbeaa
/- THE CELL 'sum', in the pinned program and in every row, IS THE sha256 OF THE DUMP (.gsa) THAT YtmlgjmcenjbbeaaProg.lean LOADS. Nothing in Lean hashes anything: it is a label: what it is worth is what the hold of that sum in a sandbox is worth. -/
noncomputable def Try.pinned : Pinned := { name := "ytmlgjmcenjbbeaa", sum := "3314e8b18fd4d4e57713c1308d2ead45f8205b329d6d22fa3fd73d9eb1db693e", checked := Try.checked }
namespace Rows
def none {H : Type} : Left H := { results := [], args := [] }

/-- 'slipwaylaw16.DirentChecks': WHATEVER THE INPUT: true; the input reads as it did. -/
def direntChecksSpec : ChangeSpec := { name := "direntChecks", fn := fun _ => fun
  | [d1, d2, d3] => { results := [.lit (.bool true)], args := [d1, d2, d3] }
  | _ => none }
def direntChecksRow : OpenClaim := { program := "ytmlgjmcenjbbeaa", sum := "3314e8b18fd4d4e57713c1308d2ead45f8205b329d6d22fa3fd73d9eb1db693e", func := "slipway/slipwaylaw16.DirentChecks", spec := "direntChecks", inPlace := ["internal/bytealg.IndexByteString"], unfollowed := true, recurses := true, apart := false }
def DirentChecksSaid : Prop := direntChecksRow.holds Try.pinned (OpenSpec.ofChange direntChecksSpec)

/-- ITS FALSE NEIGHBOUR: 'it returns false'. Refute it at one input. -/
def direntChecksWrong : ChangeSpec := { name := "direntChecks", fn := fun _ => fun
  | [d1, d2, d3] => { results := [.lit (.bool false)], args := [d1, d2, d3] }
  | _ => none }
def DirentChecksWrongFalsely : Prop := direntChecksRow.holds Try.pinned (OpenSpec.ofChange direntChecksWrong)

/-- 'slipwaylaw16.DirentBack': WHATEVER THE INPUT: true; the input reads as it did. -/
def direntBackSpec : ChangeSpec := { name := "direntBack", fn := fun _ => fun
  | [d1, d2] => { results := [.lit (.bool true)], args := [d1, d2] }
  | _ => none }
def direntBackRow : OpenClaim := { program := "ytmlgjmcenjbbeaa", sum := "3314e8b18fd4d4e57713c1308d2ead45f8205b329d6d22fa3fd73d9eb1db693e", func := "slipway/slipwaylaw16.DirentBack", spec := "direntBack", inPlace := ["internal/bytealg.IndexByteString"], unfollowed := true, recurses := true, apart := false }
def DirentBackSaid : Prop := direntBackRow.holds Try.pinned (OpenSpec.ofChange direntBackSpec)

/-- ITS FALSE NEIGHBOUR: 'it returns false'. Refute it at one input. -/
def direntBackWrong : ChangeSpec := { name := "direntBack", fn := fun _ => fun
  | [d1, d2] => { results := [.lit (.bool false)], args := [d1, d2] }
  | _ => none }
def DirentBackWrongFalsely : Prop := direntBackRow.holds Try.pinned (OpenSpec.ofChange direntBackWrong)

/-- 'slipwaylaw16.DirentChanges': WHATEVER THE INPUT: true; the input reads as it did. -/
def direntChangesSpec : ChangeSpec := { name := "direntChanges", fn := fun _ => fun
  | [d1, d2, d3] => { results := [.lit (.bool true)], args := [d1, d2, d3] }
  | _ => none }
def direntChangesRow : OpenClaim := { program := "ytmlgjmcenjbbeaa", sum := "3314e8b18fd4d4e57713c1308d2ead45f8205b329d6d22fa3fd73d9eb1db693e", func := "slipway/slipwaylaw16.DirentChanges", spec := "direntChanges", inPlace := ["internal/bytealg.IndexByteString"], unfollowed := true, recurses := true, apart := false }
def DirentChangesSaid : Prop := direntChangesRow.holds Try.pinned (OpenSpec.ofChange direntChangesSpec)

/-- ITS FALSE NEIGHBOUR: 'it returns false'. Refute it at one input. -/
def direntChangesWrong : ChangeSpec := { name := "direntChanges", fn := fun _ => fun
  | [d1, d2, d3] => { results := [.lit (.bool false)], args := [d1, d2, d3] }
  | _ => none }
def DirentChangesWrongFalsely : Prop := direntChangesRow.holds Try.pinned (OpenSpec.ofChange direntChangesWrong)

/-- 'slipwaylaw16.DirentMap': WHATEVER THE INPUT: true; the input reads as it did. -/
def direntMapSpec : ChangeSpec := { name := "direntMap", fn := fun _ => fun
  | [d] => { results := [.lit (.bool true)], args := [d] }
  | _ => none }
def direntMapRow : OpenClaim := { program := "ytmlgjmcenjbbeaa", sum := "3314e8b18fd4d4e57713c1308d2ead45f8205b329d6d22fa3fd73d9eb1db693e", func := "slipway/slipwaylaw16.DirentMap", spec := "direntMap", inPlace := ["internal/bytealg.IndexByteString"], unfollowed := true, recurses := true, apart := false }
def DirentMapSaid : Prop := direntMapRow.holds Try.pinned (OpenSpec.ofChange direntMapSpec)

/-- ITS FALSE NEIGHBOUR: 'it returns false'. Refute it at one input. -/
def direntMapWrong : ChangeSpec := { name := "direntMap", fn := fun _ => fun
  | [d] => { results := [.lit (.bool false)], args := [d] }
  | _ => none }
def DirentMapWrongFalsely : Prop := direntMapRow.holds Try.pinned (OpenSpec.ofChange direntMapWrong)

/- THE SECOND FORM. 'bulk': how many values and letters a reading holds, each counted each time it is reached (what is shared counts as often as it is met; a slice's spare places count too). A statement '..UptoSaid' is the law's where the arguments, and the package variables that the reading takes, are together of bulk at most 1048576: NARROWER than '..Said'. Prove '..Said' where nothing that the law and all that it calls make is longer than what came in: it says more and counts as full. Else prove '..UptoSaid'. A law counts once. -/
mutual
def uptoBulk {H : Type} : DataW H → Nat
  | .lit (.string bytes) => bytes.length + 1
  | .lit _ => 1
  | .nil => 1
  | .ptr d => uptoBulk d + 1
  | .slice elems spare => uptoBulkAll elems + uptoBulkAll spare + 1
  | .agg parts => uptoBulkAll parts + 1
  | .iface _ d => uptoBulk d + 1
  | .map entries => uptoBulkEntries entries + 1
  | .held _ => 1
def uptoBulkAll {H : Type} : List (DataW H) → Nat
  | [] => 0
  | d :: r => uptoBulk d + uptoBulkAll r
def uptoBulkEntries {H : Type} : List (Lit × DataW H) → Nat
  | [] => 0
  | x :: r => uptoBulkEntry x + uptoBulkEntries r
def uptoBulkEntry {H : Type} : Lit × DataW H → Nat
  | (.string bytes, d) => bytes.length + uptoBulk d + 1
  | (_, d) => uptoBulk d + 1
 end
def uptoSmall : (H : Type) → List (DataW H) → Bool := fun _ ds => decide (uptoBulkAll ds ≤ 1048576)
def OpenSpec.upto (s : _root_.Go.ChangeSpec) : _root_.Go.OpenSpec := { _root_.Go.OpenSpec.ofChange s with cond := some uptoSmall }

/-- 'slipwaylaw16.DirentChecks', WHERE WHAT IT READS IS OF BULK AT MOST 1048576: true; the input reads as it did. -/
def direntChecksUptoRow : OpenClaim := { program := "ytmlgjmcenjbbeaa", sum := "3314e8b18fd4d4e57713c1308d2ead45f8205b329d6d22fa3fd73d9eb1db693e", func := "slipway/slipwaylaw16.DirentChecks", spec := "direntChecks", inPlace := ["internal/bytealg.IndexByteString"], unfollowed := true, recurses := true, apart := false, narrowed := true }
def DirentChecksUptoSaid : Prop := direntChecksUptoRow.holds Try.pinned (OpenSpec.upto direntChecksSpec)

/-- 'slipwaylaw16.DirentBack', WHERE WHAT IT READS IS OF BULK AT MOST 1048576: true; the input reads as it did. -/
def direntBackUptoRow : OpenClaim := { program := "ytmlgjmcenjbbeaa", sum := "3314e8b18fd4d4e57713c1308d2ead45f8205b329d6d22fa3fd73d9eb1db693e", func := "slipway/slipwaylaw16.DirentBack", spec := "direntBack", inPlace := ["internal/bytealg.IndexByteString"], unfollowed := true, recurses := true, apart := false, narrowed := true }
def DirentBackUptoSaid : Prop := direntBackUptoRow.holds Try.pinned (OpenSpec.upto direntBackSpec)

/-- 'slipwaylaw16.DirentChanges', WHERE WHAT IT READS IS OF BULK AT MOST 1048576: true; the input reads as it did. -/
def direntChangesUptoRow : OpenClaim := { program := "ytmlgjmcenjbbeaa", sum := "3314e8b18fd4d4e57713c1308d2ead45f8205b329d6d22fa3fd73d9eb1db693e", func := "slipway/slipwaylaw16.DirentChanges", spec := "direntChanges", inPlace := ["internal/bytealg.IndexByteString"], unfollowed := true, recurses := true, apart := false, narrowed := true }
def DirentChangesUptoSaid : Prop := direntChangesUptoRow.holds Try.pinned (OpenSpec.upto direntChangesSpec)

/-- 'slipwaylaw16.DirentMap', WHERE WHAT IT READS IS OF BULK AT MOST 1048576: true; the input reads as it did. -/
def direntMapUptoRow : OpenClaim := { program := "ytmlgjmcenjbbeaa", sum := "3314e8b18fd4d4e57713c1308d2ead45f8205b329d6d22fa3fd73d9eb1db693e", func := "slipway/slipwaylaw16.DirentMap", spec := "direntMap", inPlace := ["internal/bytealg.IndexByteString"], unfollowed := true, recurses := true, apart := false, narrowed := true }
def DirentMapUptoSaid : Prop := direntMapUptoRow.holds Try.pinned (OpenSpec.upto direntMapSpec)

end Rows
end Go.Proofs.Ytmlgjmcenjbbeaa
