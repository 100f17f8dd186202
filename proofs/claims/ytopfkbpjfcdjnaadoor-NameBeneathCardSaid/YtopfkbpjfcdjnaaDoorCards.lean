/-
  DERIVED. GIVEN WITH THE SEED: THE CARDS: each row of YtopfkbpjfcdjnaaDoorRows.lean that lists a variable, with what it lists TIED to the program's text (the seventh form; the later family's looks); each row that meets fmt, with fmt's text TOLD by the authors' own Lean function (tested against real Go, not proved from fmt's source: count such statements apart). THE CARD IS WHAT COUNTS. Prove the row's statement (the work); the ties are given (YtopfkbpjfcdjnaaDoorTie.lean); close each card by the builder's one call (the guide's Derived/Test/ToyasCard.lean, 'card_holds'). Laid BY PROGRAM, IN A SANDBOX (cutbox-door.mjs). By AI agents, Wed Nov 11 2026. No macro, syntax, notation, axiom, sorry.
-/
import Derived.Test.YtopfkbpjfcdjnaaDoorRows
import GoSem.ClaimSeven
namespace Go.Proofs.YtopfkbpjfcdjnaaDoor
namespace Rows

/-- THE TIED CARD OF 'slipwaylaw21.NameJoins'. -/
def nameJoinsCard : Claim7 := { stood := { row := nameJoinsRow, standIns := [], harness := (true, "c72ff75e3ea6bd22dff3659f010aa36b2b81645275ebd23406f594844e15e2b4"), looks := true }, kinds := [], alts := [], laidByText := true, laidKinds := [.data, .handle, .pinned], laidTests := true, laidLooks := .later }
def NameJoinsCardSaid : Prop := Claim7.holds Tryd.pinned (.plain (OpenSpec.ofChange nameJoinsSpec)) nameJoinsCard

/-- THE TIED CARD OF 'slipwaylaw21.NameAt'. -/
def nameAtCard : Claim7 := { stood := { row := nameAtRow, standIns := [], harness := (true, "c72ff75e3ea6bd22dff3659f010aa36b2b81645275ebd23406f594844e15e2b4"), looks := true }, kinds := [], alts := [], laidByText := true, laidKinds := [.data, .handle, .pinned], laidTests := true, laidLooks := .later }
def NameAtCardSaid : Prop := Claim7.holds Tryd.pinned (.plain (OpenSpec.ofChange nameAtSpec)) nameAtCard

/-- THE TIED CARD OF 'slipwaylaw21.NameWraps'. -/
def nameWrapsCard : Claim7 := { stood := { row := nameWrapsRow, standIns := [], harness := (true, "c72ff75e3ea6bd22dff3659f010aa36b2b81645275ebd23406f594844e15e2b4"), looks := true }, kinds := [], alts := [], laidByText := true, laidKinds := [.data, .handle, .pinned], laidTests := true, laidLooks := .later }
def NameWrapsCardSaid : Prop := Claim7.holds Tryd.pinned (.plain (OpenSpec.ofChange nameWrapsSpec)) nameWrapsCard

/-- THE TIED CARD OF 'slipwaylaw21.NameBack'. -/
def nameBackCard : Claim7 := { stood := { row := nameBackRow, standIns := [], harness := (true, "c72ff75e3ea6bd22dff3659f010aa36b2b81645275ebd23406f594844e15e2b4"), looks := true }, kinds := [], alts := [], laidByText := true, laidKinds := [.data, .handle, .pinned], laidTests := true, laidLooks := .later }
def NameBackCardSaid : Prop := Claim7.holds Tryd.pinned (.plain (OpenSpec.ofChange nameBackSpec)) nameBackCard

/-- THE TIED CARD OF 'slipwaylaw21.NameBeneath'. -/
def nameBeneathCard : Claim7 := { stood := { row := nameBeneathRow, standIns := [], harness := (true, "c72ff75e3ea6bd22dff3659f010aa36b2b81645275ebd23406f594844e15e2b4"), looks := true }, kinds := [], alts := [], laidByText := true, laidKinds := [.data, .handle, .pinned], laidTests := true, laidLooks := .later }
def NameBeneathCardSaid : Prop := Claim7.holds Tryd.pinned (.plain (OpenSpec.ofChange nameBeneathSpec)) nameBeneathCard

/-- THE TIED CARD OF 'slipwaylaw21.NamePaths'. -/
def namePathsCard : Claim7 := { stood := { row := namePathsRow, standIns := [], harness := (true, "c72ff75e3ea6bd22dff3659f010aa36b2b81645275ebd23406f594844e15e2b4"), looks := true }, kinds := [], alts := [], laidByText := true, laidKinds := [.data, .handle, .pinned], laidTests := true, laidLooks := .later }
def NamePathsCardSaid : Prop := Claim7.holds Tryd.pinned (.plain (OpenSpec.ofChange namePathsSpec)) namePathsCard

/-- THE SECOND FORM's CARD OF 'slipwaylaw21.NameJoins'. -/
def nameJoinsUptoCard : Claim7 := { stood := { row := nameJoinsUptoRow, standIns := [], harness := (true, "c72ff75e3ea6bd22dff3659f010aa36b2b81645275ebd23406f594844e15e2b4"), looks := true }, kinds := [], alts := [], laidByText := true, laidKinds := [.data, .handle, .pinned], laidTests := true, laidLooks := .later }
def NameJoinsUptoCardSaid : Prop := Claim7.holds Tryd.pinned (.plain (OpenSpec.upto nameJoinsSpec)) nameJoinsUptoCard

/-- THE SECOND FORM's CARD OF 'slipwaylaw21.NameAt'. -/
def nameAtUptoCard : Claim7 := { stood := { row := nameAtUptoRow, standIns := [], harness := (true, "c72ff75e3ea6bd22dff3659f010aa36b2b81645275ebd23406f594844e15e2b4"), looks := true }, kinds := [], alts := [], laidByText := true, laidKinds := [.data, .handle, .pinned], laidTests := true, laidLooks := .later }
def NameAtUptoCardSaid : Prop := Claim7.holds Tryd.pinned (.plain (OpenSpec.upto nameAtSpec)) nameAtUptoCard

/-- THE SECOND FORM's CARD OF 'slipwaylaw21.NameWraps'. -/
def nameWrapsUptoCard : Claim7 := { stood := { row := nameWrapsUptoRow, standIns := [], harness := (true, "c72ff75e3ea6bd22dff3659f010aa36b2b81645275ebd23406f594844e15e2b4"), looks := true }, kinds := [], alts := [], laidByText := true, laidKinds := [.data, .handle, .pinned], laidTests := true, laidLooks := .later }
def NameWrapsUptoCardSaid : Prop := Claim7.holds Tryd.pinned (.plain (OpenSpec.upto nameWrapsSpec)) nameWrapsUptoCard

/-- THE SECOND FORM's CARD OF 'slipwaylaw21.NameBack'. -/
def nameBackUptoCard : Claim7 := { stood := { row := nameBackUptoRow, standIns := [], harness := (true, "c72ff75e3ea6bd22dff3659f010aa36b2b81645275ebd23406f594844e15e2b4"), looks := true }, kinds := [], alts := [], laidByText := true, laidKinds := [.data, .handle, .pinned], laidTests := true, laidLooks := .later }
def NameBackUptoCardSaid : Prop := Claim7.holds Tryd.pinned (.plain (OpenSpec.upto nameBackSpec)) nameBackUptoCard

/-- THE SECOND FORM's CARD OF 'slipwaylaw21.NameBeneath'. -/
def nameBeneathUptoCard : Claim7 := { stood := { row := nameBeneathUptoRow, standIns := [], harness := (true, "c72ff75e3ea6bd22dff3659f010aa36b2b81645275ebd23406f594844e15e2b4"), looks := true }, kinds := [], alts := [], laidByText := true, laidKinds := [.data, .handle, .pinned], laidTests := true, laidLooks := .later }
def NameBeneathUptoCardSaid : Prop := Claim7.holds Tryd.pinned (.plain (OpenSpec.upto nameBeneathSpec)) nameBeneathUptoCard

/-- THE SECOND FORM's CARD OF 'slipwaylaw21.NamePaths'. -/
def namePathsUptoCard : Claim7 := { stood := { row := namePathsUptoRow, standIns := [], harness := (true, "c72ff75e3ea6bd22dff3659f010aa36b2b81645275ebd23406f594844e15e2b4"), looks := true }, kinds := [], alts := [], laidByText := true, laidKinds := [.data, .handle, .pinned], laidTests := true, laidLooks := .later }
def NamePathsUptoCardSaid : Prop := Claim7.holds Tryd.pinned (.plain (OpenSpec.upto namePathsSpec)) namePathsUptoCard
end Rows
end Go.Proofs.YtopfkbpjfcdjnaaDoor
