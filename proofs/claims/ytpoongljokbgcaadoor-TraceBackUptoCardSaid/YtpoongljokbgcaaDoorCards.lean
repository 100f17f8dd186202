/-
  DERIVED. GIVEN WITH THE SEED: THE CARDS: each row of YtpoongljokbgcaaDoorRows.lean that lists a variable, with what it lists TIED to the program's text (the seventh form; the later family's looks); each row that meets fmt, with fmt's text TOLD by the authors' own Lean function (tested against real Go, not proved from fmt's source: count such statements apart). THE CARD IS WHAT COUNTS. Prove the row's statement (the work); the ties are given (YtpoongljokbgcaaDoorTie.lean); close each card by the builder's one call (the guide's Derived/Test/ToyasCard.lean, 'card_holds'). Laid BY PROGRAM, IN A SANDBOX (cutbox-door.mjs). By AI agents, Wed Nov 11 2026. No macro, syntax, notation, axiom, sorry.
-/
import Derived.Test.YtpoongljokbgcaaDoorRows
import GoSem.ClaimSeven
namespace Go.Proofs.YtpoongljokbgcaaDoor
namespace Rows

/-- THE TIED CARD OF 'slipwaylaw27.TraceTexts'. -/
def traceTextsCard : Claim7 := { stood := { row := traceTextsRow, standIns := [], harness := (true, "208a879d6cbcaad94cb76b3bc784356cf23a5f9f9f704ed903a1b8c0af2f426b"), looks := false }, kinds := [], alts := [], laidByText := true, laidKinds := [.data, .pinned], laidTests := true, laidLooks := .later }
def TraceTextsCardSaid : Prop := Claim7.holds Tryd.pinned (.plain (OpenSpec.ofChange traceTextsSpec)) traceTextsCard

/-- THE TIED CARD OF 'slipwaylaw27.TraceSaid'. -/
def traceSaidCard : Claim7 := { stood := { row := traceSaidRow, standIns := [], harness := (true, "208a879d6cbcaad94cb76b3bc784356cf23a5f9f9f704ed903a1b8c0af2f426b"), looks := false }, kinds := [], alts := [], laidByText := true, laidKinds := [.data, .pinned], laidTests := true, laidLooks := .later }
def TraceSaidCardSaid : Prop := Claim7.holds Tryd.pinned (.plain (OpenSpec.ofChange traceSaidSpec)) traceSaidCard

/-- THE TIED CARD OF 'slipwaylaw27.TraceBack'. -/
def traceBackCard : Claim7 := { stood := { row := traceBackRow, standIns := [], harness := (true, "208a879d6cbcaad94cb76b3bc784356cf23a5f9f9f704ed903a1b8c0af2f426b"), looks := false }, kinds := [], alts := [], laidByText := true, laidKinds := [.data, .pinned], laidTests := true, laidLooks := .later }
def TraceBackCardSaid : Prop := Claim7.holds Tryd.pinned (.plain (OpenSpec.ofChange traceBackSpec)) traceBackCard

/-- THE TIED CARD OF 'slipwaylaw27.TraceCalls'. -/
def traceCallsCard : Claim7 := { stood := { row := traceCallsRow, standIns := [], harness := (true, "208a879d6cbcaad94cb76b3bc784356cf23a5f9f9f704ed903a1b8c0af2f426b"), looks := false }, kinds := [], alts := [], laidByText := true, laidKinds := [.data, .data, .data, .data, .pinned], laidTests := true, laidLooks := .later }
def TraceCallsCardSaid : Prop := Claim7.holds Tryd.pinned (.plain (OpenSpec.ofChange traceCallsSpec)) traceCallsCard

/-- THE TIED CARD OF 'slipwaylaw27.TraceAnswers'. -/
def traceAnswersCard : Claim7 := { stood := { row := traceAnswersRow, standIns := [], harness := (true, "208a879d6cbcaad94cb76b3bc784356cf23a5f9f9f704ed903a1b8c0af2f426b"), looks := false }, kinds := [], alts := [], laidByText := true, laidKinds := [.data, .data, .data, .data, .pinned], laidTests := true, laidLooks := .later }
def TraceAnswersCardSaid : Prop := Claim7.holds Tryd.pinned (.plain (OpenSpec.ofChange traceAnswersSpec)) traceAnswersCard

/-- THE TIED CARD OF 'slipwaylaw27.TraceScripts'. -/
def traceScriptsCard : Claim7 := { stood := { row := traceScriptsRow, standIns := [], harness := (true, "208a879d6cbcaad94cb76b3bc784356cf23a5f9f9f704ed903a1b8c0af2f426b"), looks := false }, kinds := [], alts := [], laidByText := true, laidKinds := [.data, .data, .data, .data, .pinned], laidTests := true, laidLooks := .later }
def TraceScriptsCardSaid : Prop := Claim7.holds Tryd.pinned (.plain (OpenSpec.ofChange traceScriptsSpec)) traceScriptsCard

/-- THE SECOND FORM's CARD OF 'slipwaylaw27.TraceTexts'. -/
def traceTextsUptoCard : Claim7 := { stood := { row := traceTextsUptoRow, standIns := [], harness := (true, "208a879d6cbcaad94cb76b3bc784356cf23a5f9f9f704ed903a1b8c0af2f426b"), looks := false }, kinds := [], alts := [], laidByText := true, laidKinds := [.data, .pinned], laidTests := true, laidLooks := .later }
def TraceTextsUptoCardSaid : Prop := Claim7.holds Tryd.pinned (.plain (OpenSpec.upto traceTextsSpec)) traceTextsUptoCard

/-- THE SECOND FORM's CARD OF 'slipwaylaw27.TraceSaid'. -/
def traceSaidUptoCard : Claim7 := { stood := { row := traceSaidUptoRow, standIns := [], harness := (true, "208a879d6cbcaad94cb76b3bc784356cf23a5f9f9f704ed903a1b8c0af2f426b"), looks := false }, kinds := [], alts := [], laidByText := true, laidKinds := [.data, .pinned], laidTests := true, laidLooks := .later }
def TraceSaidUptoCardSaid : Prop := Claim7.holds Tryd.pinned (.plain (OpenSpec.upto traceSaidSpec)) traceSaidUptoCard

/-- THE SECOND FORM's CARD OF 'slipwaylaw27.TraceBack'. -/
def traceBackUptoCard : Claim7 := { stood := { row := traceBackUptoRow, standIns := [], harness := (true, "208a879d6cbcaad94cb76b3bc784356cf23a5f9f9f704ed903a1b8c0af2f426b"), looks := false }, kinds := [], alts := [], laidByText := true, laidKinds := [.data, .pinned], laidTests := true, laidLooks := .later }
def TraceBackUptoCardSaid : Prop := Claim7.holds Tryd.pinned (.plain (OpenSpec.upto traceBackSpec)) traceBackUptoCard

/-- THE SECOND FORM's CARD OF 'slipwaylaw27.TraceCalls'. -/
def traceCallsUptoCard : Claim7 := { stood := { row := traceCallsUptoRow, standIns := [], harness := (true, "208a879d6cbcaad94cb76b3bc784356cf23a5f9f9f704ed903a1b8c0af2f426b"), looks := false }, kinds := [], alts := [], laidByText := true, laidKinds := [.data, .data, .data, .data, .pinned], laidTests := true, laidLooks := .later }
def TraceCallsUptoCardSaid : Prop := Claim7.holds Tryd.pinned (.plain (OpenSpec.upto traceCallsSpec)) traceCallsUptoCard

/-- THE SECOND FORM's CARD OF 'slipwaylaw27.TraceAnswers'. -/
def traceAnswersUptoCard : Claim7 := { stood := { row := traceAnswersUptoRow, standIns := [], harness := (true, "208a879d6cbcaad94cb76b3bc784356cf23a5f9f9f704ed903a1b8c0af2f426b"), looks := false }, kinds := [], alts := [], laidByText := true, laidKinds := [.data, .data, .data, .data, .pinned], laidTests := true, laidLooks := .later }
def TraceAnswersUptoCardSaid : Prop := Claim7.holds Tryd.pinned (.plain (OpenSpec.upto traceAnswersSpec)) traceAnswersUptoCard

/-- THE SECOND FORM's CARD OF 'slipwaylaw27.TraceScripts'. -/
def traceScriptsUptoCard : Claim7 := { stood := { row := traceScriptsUptoRow, standIns := [], harness := (true, "208a879d6cbcaad94cb76b3bc784356cf23a5f9f9f704ed903a1b8c0af2f426b"), looks := false }, kinds := [], alts := [], laidByText := true, laidKinds := [.data, .data, .data, .data, .pinned], laidTests := true, laidLooks := .later }
def TraceScriptsUptoCardSaid : Prop := Claim7.holds Tryd.pinned (.plain (OpenSpec.upto traceScriptsSpec)) traceScriptsUptoCard
end Rows
end Go.Proofs.YtpoongljokbgcaaDoor
