/-
  No cell of these rows narrows 'for every input' (looked for: loops, veiled, ifaces, maps, wideKeys, modest, calm, conditions, laid).
  DERIVED. THE GIVEN ROWS OF THIS SEAT. 7 by the template 'for every input the law returns true; each argument reads behind the call as it read before'; 0 by the template 'total and deterministic' (their statements: YtlgjlhgdpiipbaaTotals.lean).
  GIVEN WITH THE SEED: the statements are not yours to turn. If you find one false, say at which input.
  Laid BY PROGRAM, IN A SANDBOX (cutbox-rows.mjs): the forced cells as the released guide's own fill.sh prints them over the translation 0e79b8b72d6bcca2… (all of the seat's roots in one cut). By AI agents, Wed Nov 11 2026. No macro, syntax, notation, axiom, sorry.
-/
import Derived.Test.YtlgjlhgdpiipbaaChecked
import GoSem.Claim
import GoSem.ClaimJoined
import GoSem.ClaimMapViews
import Derived.JoinedTies
import Derived.KernelRfl
namespace Go.Proofs.Ytlgjlhgdpiipbaa
/- THE CELL 'sum', in the pinned program and in every row, IS THE sha256 OF THE DUMP (.gsa) THAT YtlgjlhgdpiipbaaProg.lean LOADS. Nothing in Lean hashes anything: it is a label: what it is worth is what the hold of that sum in a sandbox is worth. -/
noncomputable def Try.pinned : Pinned := { name := "ytlgjlhgdpiipbaa", sum := "0e79b8b72d6bcca2986b25a19be8d0a2f282cb3a5b2bdf9a1d2f23d615353d3c", checked := Try.checked }
namespace Rows
def none {H : Type} : Left H := { results := [], args := [] }

/-- 'slipwaylaw02.NandMakes': WHATEVER THE INPUT: true; the input reads as it did. -/
def nandMakesSpec : ChangeSpec := { name := "nandMakes", fn := fun _ => fun
  | [d1, d2, d3, d4] => { results := [.lit (.bool true)], args := [d1, d2, d3, d4] }
  | _ => none }
def nandMakesRow : OpenClaim := { program := "ytlgjlhgdpiipbaa", sum := "0e79b8b72d6bcca2986b25a19be8d0a2f282cb3a5b2bdf9a1d2f23d615353d3c", func := "slipway/slipwaylaw02.NandMakes", spec := "nandMakes", unfollowed := true, recurses := true, apart := false }
def NandMakesSaid : Prop := nandMakesRow.holds Try.pinned (OpenSpec.ofChange nandMakesSpec)

/-- ITS FALSE NEIGHBOUR: 'it returns false'. Refute it at one input. -/
def nandMakesWrong : ChangeSpec := { name := "nandMakes", fn := fun _ => fun
  | [d1, d2, d3, d4] => { results := [.lit (.bool false)], args := [d1, d2, d3, d4] }
  | _ => none }
def NandMakesWrongFalsely : Prop := nandMakesRow.holds Try.pinned (OpenSpec.ofChange nandMakesWrong)

/-- 'slipwaylaw02.NandCounts': WHATEVER THE INPUT: true; the input reads as it did. -/
def nandCountsSpec : ChangeSpec := { name := "nandCounts", fn := fun _ => fun
  | [d1, d2, d3] => { results := [.lit (.bool true)], args := [d1, d2, d3] }
  | _ => none }
def nandCountsRow : OpenClaim := { program := "ytlgjlhgdpiipbaa", sum := "0e79b8b72d6bcca2986b25a19be8d0a2f282cb3a5b2bdf9a1d2f23d615353d3c", func := "slipway/slipwaylaw02.NandCounts", spec := "nandCounts", apart := false }
def NandCountsSaid : Prop := nandCountsRow.holds Try.pinned (OpenSpec.ofChange nandCountsSpec)

/-- ITS FALSE NEIGHBOUR: 'it returns false'. Refute it at one input. -/
def nandCountsWrong : ChangeSpec := { name := "nandCounts", fn := fun _ => fun
  | [d1, d2, d3] => { results := [.lit (.bool false)], args := [d1, d2, d3] }
  | _ => none }
def NandCountsWrongFalsely : Prop := nandCountsRow.holds Try.pinned (OpenSpec.ofChange nandCountsWrong)

/-- 'slipwaylaw02.NandOneSided': WHATEVER THE INPUT: true; the input reads as it did. -/
def nandOneSidedSpec : ChangeSpec := { name := "nandOneSided", fn := fun _ => fun
  | [d1, d2, d3] => { results := [.lit (.bool true)], args := [d1, d2, d3] }
  | _ => none }
def nandOneSidedRow : OpenClaim := { program := "ytlgjlhgdpiipbaa", sum := "0e79b8b72d6bcca2986b25a19be8d0a2f282cb3a5b2bdf9a1d2f23d615353d3c", func := "slipway/slipwaylaw02.NandOneSided", spec := "nandOneSided", unfollowed := true, recurses := true, apart := false }
def NandOneSidedSaid : Prop := nandOneSidedRow.holds Try.pinned (OpenSpec.ofChange nandOneSidedSpec)

/-- ITS FALSE NEIGHBOUR: 'it returns false'. Refute it at one input. -/
def nandOneSidedWrong : ChangeSpec := { name := "nandOneSided", fn := fun _ => fun
  | [d1, d2, d3] => { results := [.lit (.bool false)], args := [d1, d2, d3] }
  | _ => none }
def NandOneSidedWrongFalsely : Prop := nandOneSidedRow.holds Try.pinned (OpenSpec.ofChange nandOneSidedWrong)

/-- 'slipwaylaw02.NandStays': WHATEVER THE INPUT: true; the input reads as it did. -/
def nandStaysSpec : ChangeSpec := { name := "nandStays", fn := fun _ => fun
  | [d1, d2, d3, d4] => { results := [.lit (.bool true)], args := [d1, d2, d3, d4] }
  | _ => none }
def nandStaysRow : OpenClaim := { program := "ytlgjlhgdpiipbaa", sum := "0e79b8b72d6bcca2986b25a19be8d0a2f282cb3a5b2bdf9a1d2f23d615353d3c", func := "slipway/slipwaylaw02.NandStays", spec := "nandStays", unfollowed := true, recurses := true, apart := false }
def NandStaysSaid : Prop := nandStaysRow.holds Try.pinned (OpenSpec.ofChange nandStaysSpec)

/-- ITS FALSE NEIGHBOUR: 'it returns false'. Refute it at one input. -/
def nandStaysWrong : ChangeSpec := { name := "nandStays", fn := fun _ => fun
  | [d1, d2, d3, d4] => { results := [.lit (.bool false)], args := [d1, d2, d3, d4] }
  | _ => none }
def NandStaysWrongFalsely : Prop := nandStaysRow.holds Try.pinned (OpenSpec.ofChange nandStaysWrong)

/-- 'slipwaylaw02.NandPower': WHATEVER THE INPUT: true; the input reads as it did. -/
def nandPowerSpec : ChangeSpec := { name := "nandPower", fn := fun _ => fun
  | [d1, d2, d3, d4] => { results := [.lit (.bool true)], args := [d1, d2, d3, d4] }
  | _ => none }
def nandPowerRow : OpenClaim := { program := "ytlgjlhgdpiipbaa", sum := "0e79b8b72d6bcca2986b25a19be8d0a2f282cb3a5b2bdf9a1d2f23d615353d3c", func := "slipway/slipwaylaw02.NandPower", spec := "nandPower", unfollowed := true, recurses := true, apart := false }
def NandPowerSaid : Prop := nandPowerRow.holds Try.pinned (OpenSpec.ofChange nandPowerSpec)

/-- ITS FALSE NEIGHBOUR: 'it returns false'. Refute it at one input. -/
def nandPowerWrong : ChangeSpec := { name := "nandPower", fn := fun _ => fun
  | [d1, d2, d3, d4] => { results := [.lit (.bool false)], args := [d1, d2, d3, d4] }
  | _ => none }
def NandPowerWrongFalsely : Prop := nandPowerRow.holds Try.pinned (OpenSpec.ofChange nandPowerWrong)

/-- 'slipwaylaw02.NandDoes': WHATEVER THE INPUT: true; the input reads as it did. -/
def nandDoesSpec : ChangeSpec := { name := "nandDoes", fn := fun _ => fun
  | [d1, d2, d3, d4] => { results := [.lit (.bool true)], args := [d1, d2, d3, d4] }
  | _ => none }
def nandDoesRow : OpenClaim := { program := "ytlgjlhgdpiipbaa", sum := "0e79b8b72d6bcca2986b25a19be8d0a2f282cb3a5b2bdf9a1d2f23d615353d3c", func := "slipway/slipwaylaw02.NandDoes", spec := "nandDoes", unfollowed := true, recurses := true, apart := false }
def NandDoesSaid : Prop := nandDoesRow.holds Try.pinned (OpenSpec.ofChange nandDoesSpec)

/-- ITS FALSE NEIGHBOUR: 'it returns false'. Refute it at one input. -/
def nandDoesWrong : ChangeSpec := { name := "nandDoes", fn := fun _ => fun
  | [d1, d2, d3, d4] => { results := [.lit (.bool false)], args := [d1, d2, d3, d4] }
  | _ => none }
def NandDoesWrongFalsely : Prop := nandDoesRow.holds Try.pinned (OpenSpec.ofChange nandDoesWrong)

/-- 'slipwaylaw02.NandNone': WHATEVER THE INPUT: true; the input reads as it did. -/
def nandNoneSpec : ChangeSpec := { name := "nandNone", fn := fun _ => fun
  | [d] => { results := [.lit (.bool true)], args := [d] }
  | _ => none }
def nandNoneRow : OpenClaim := { program := "ytlgjlhgdpiipbaa", sum := "0e79b8b72d6bcca2986b25a19be8d0a2f282cb3a5b2bdf9a1d2f23d615353d3c", func := "slipway/slipwaylaw02.NandNone", spec := "nandNone", unfollowed := true, recurses := true, apart := false }
def NandNoneSaid : Prop := nandNoneRow.holds Try.pinned (OpenSpec.ofChange nandNoneSpec)

/-- ITS FALSE NEIGHBOUR: 'it returns false'. Refute it at one input. -/
def nandNoneWrong : ChangeSpec := { name := "nandNone", fn := fun _ => fun
  | [d] => { results := [.lit (.bool false)], args := [d] }
  | _ => none }
def NandNoneWrongFalsely : Prop := nandNoneRow.holds Try.pinned (OpenSpec.ofChange nandNoneWrong)

/- THE SECOND FORM. 'bulk': how many values and letters a reading holds, each counted each time it is reached (what is shared counts as often as it is met; a slice's spare places count too). A statement '..UptoSaid' is the law's where the arguments, and the package variables that the reading takes, are together of bulk at most 1048576: NARROWER than '..Said'. Prove '..Said' where nothing that the law and all that it calls make is longer than what came in: it says more and counts as full. Else prove '..UptoSaid'. A law counts once. -/
mutual
def uptoBulk {H : Type} : DataW H → Nat
  | .lit (.string bytes) => bytes.length + 1
  | .lit _ => 1
  | .nil => 1
  | .ptr d => uptoBulk d + 1
  | .slice elems spare => uptoBulkAll elems + uptoBulkAll spare + 1
  | .agg parts => uptoBulkAll parts + 1
  | .iface _ d => uptoBulk d + 1
  | .map entries => uptoBulkEntries entries + 1
  | .held _ => 1
def uptoBulkAll {H : Type} : List (DataW H) → Nat
  | [] => 0
  | d :: r => uptoBulk d + uptoBulkAll r
def uptoBulkEntries {H : Type} : List (Lit × DataW H) → Nat
  | [] => 0
  | x :: r => uptoBulkEntry x + uptoBulkEntries r
def uptoBulkEntry {H : Type} : Lit × DataW H → Nat
  | (.string bytes, d) => bytes.length + uptoBulk d + 1
  | (_, d) => uptoBulk d + 1
 end
def uptoSmall : (H : Type) → List (DataW H) → Bool := fun _ ds => decide (uptoBulkAll ds ≤ 1048576)
def OpenSpec.upto (s : _root_.Go.ChangeSpec) : _root_.Go.OpenSpec := { _root_.Go.OpenSpec.ofChange s with cond := some uptoSmall }

/-- 'slipwaylaw02.NandMakes', WHERE WHAT IT READS IS OF BULK AT MOST 1048576: true; the input reads as it did. -/
def nandMakesUptoRow : OpenClaim := { program := "ytlgjlhgdpiipbaa", sum := "0e79b8b72d6bcca2986b25a19be8d0a2f282cb3a5b2bdf9a1d2f23d615353d3c", func := "slipway/slipwaylaw02.NandMakes", spec := "nandMakes", unfollowed := true, recurses := true, apart := false, narrowed := true }
def NandMakesUptoSaid : Prop := nandMakesUptoRow.holds Try.pinned (OpenSpec.upto nandMakesSpec)

/-- 'slipwaylaw02.NandCounts', WHERE WHAT IT READS IS OF BULK AT MOST 1048576: true; the input reads as it did. -/
def nandCountsUptoRow : OpenClaim := { program := "ytlgjlhgdpiipbaa", sum := "0e79b8b72d6bcca2986b25a19be8d0a2f282cb3a5b2bdf9a1d2f23d615353d3c", func := "slipway/slipwaylaw02.NandCounts", spec := "nandCounts", apart := false, narrowed := true }
def NandCountsUptoSaid : Prop := nandCountsUptoRow.holds Try.pinned (OpenSpec.upto nandCountsSpec)

/-- 'slipwaylaw02.NandOneSided', WHERE WHAT IT READS IS OF BULK AT MOST 1048576: true; the input reads as it did. -/
def nandOneSidedUptoRow : OpenClaim := { program := "ytlgjlhgdpiipbaa", sum := "0e79b8b72d6bcca2986b25a19be8d0a2f282cb3a5b2bdf9a1d2f23d615353d3c", func := "slipway/slipwaylaw02.NandOneSided", spec := "nandOneSided", unfollowed := true, recurses := true, apart := false, narrowed := true }
def NandOneSidedUptoSaid : Prop := nandOneSidedUptoRow.holds Try.pinned (OpenSpec.upto nandOneSidedSpec)

/-- 'slipwaylaw02.NandStays', WHERE WHAT IT READS IS OF BULK AT MOST 1048576: true; the input reads as it did. -/
def nandStaysUptoRow : OpenClaim := { program := "ytlgjlhgdpiipbaa", sum := "0e79b8b72d6bcca2986b25a19be8d0a2f282cb3a5b2bdf9a1d2f23d615353d3c", func := "slipway/slipwaylaw02.NandStays", spec := "nandStays", unfollowed := true, recurses := true, apart := false, narrowed := true }
def NandStaysUptoSaid : Prop := nandStaysUptoRow.holds Try.pinned (OpenSpec.upto nandStaysSpec)

/-- 'slipwaylaw02.NandPower', WHERE WHAT IT READS IS OF BULK AT MOST 1048576: true; the input reads as it did. -/
def nandPowerUptoRow : OpenClaim := { program := "ytlgjlhgdpiipbaa", sum := "0e79b8b72d6bcca2986b25a19be8d0a2f282cb3a5b2bdf9a1d2f23d615353d3c", func := "slipway/slipwaylaw02.NandPower", spec := "nandPower", unfollowed := true, recurses := true, apart := false, narrowed := true }
def NandPowerUptoSaid : Prop := nandPowerUptoRow.holds Try.pinned (OpenSpec.upto nandPowerSpec)

/-- 'slipwaylaw02.NandDoes', WHERE WHAT IT READS IS OF BULK AT MOST 1048576: true; the input reads as it did. -/
def nandDoesUptoRow : OpenClaim := { program := "ytlgjlhgdpiipbaa", sum := "0e79b8b72d6bcca2986b25a19be8d0a2f282cb3a5b2bdf9a1d2f23d615353d3c", func := "slipway/slipwaylaw02.NandDoes", spec := "nandDoes", unfollowed := true, recurses := true, apart := false, narrowed := true }
def NandDoesUptoSaid : Prop := nandDoesUptoRow.holds Try.pinned (OpenSpec.upto nandDoesSpec)

/-- 'slipwaylaw02.NandNone', WHERE WHAT IT READS IS OF BULK AT MOST 1048576: true; the input reads as it did. -/
def nandNoneUptoRow : OpenClaim := { program := "ytlgjlhgdpiipbaa", sum := "0e79b8b72d6bcca2986b25a19be8d0a2f282cb3a5b2bdf9a1d2f23d615353d3c", func := "slipway/slipwaylaw02.NandNone", spec := "nandNone", unfollowed := true, recurses := true, apart := false, narrowed := true }
def NandNoneUptoSaid : Prop := nandNoneUptoRow.holds Try.pinned (OpenSpec.upto nandNoneSpec)

end Rows
end Go.Proofs.Ytlgjlhgdpiipbaa
