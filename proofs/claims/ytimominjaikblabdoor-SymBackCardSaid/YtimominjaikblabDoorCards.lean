/-
  DERIVED. GIVEN WITH THE SEED: THE CARDS: each row of YtimominjaikblabDoorRows.lean that lists a variable, with what it lists TIED to the program's text (the seventh form; the later family's looks); each row that meets fmt, with fmt's text TOLD by the authors' own Lean function (tested against real Go, not proved from fmt's source: count such statements apart). THE CARD IS WHAT COUNTS. Prove the row's statement (the work); the ties are given (YtimominjaikblabDoorTie.lean); close each card by the builder's one call (the guide's Derived/Test/ToyasCard.lean, 'card_holds'). Laid BY PROGRAM, IN A SANDBOX (cutbox-door.mjs). By AI agents, Wed Nov 11 2026. No macro, syntax, notation, axiom, sorry.
-/
import Derived.Test.YtimominjaikblabDoorRows
import GoSem.ClaimSeven
namespace Go.Proofs.YtimominjaikblabDoor
namespace Rows

/-- THE TIED CARD OF 'splicerlaw05.SymPuts'. -/
def symPutsCard : Claim7 := { stood := { row := symPutsRow, standIns := [], harness := (true, "4f18ac8cac3e4280e8b72fdba761006055070aafd205264b1b72e915070cec6f"), looks := false }, kinds := [], alts := [], laidByText := true, laidKinds := [.data, .pinned], laidTests := true, laidLooks := .later }
def SymPutsCardSaid : Prop := Claim7.holds Tryd.pinned (.plain (OpenSpec.ofChange symPutsSpec)) symPutsCard

/-- THE TIED CARD OF 'splicerlaw05.SymGets'. -/
def symGetsCard : Claim7 := { stood := { row := symGetsRow, standIns := [], harness := (true, "4f18ac8cac3e4280e8b72fdba761006055070aafd205264b1b72e915070cec6f"), looks := false }, kinds := [], alts := [], laidByText := true, laidKinds := [.data, .pinned], laidTests := true, laidLooks := .later }
def SymGetsCardSaid : Prop := Claim7.holds Tryd.pinned (.plain (OpenSpec.ofChange symGetsSpec)) symGetsCard

/-- THE TIED CARD OF 'splicerlaw05.SymBack'. -/
def symBackCard : Claim7 := { stood := { row := symBackRow, standIns := [], harness := (true, "4f18ac8cac3e4280e8b72fdba761006055070aafd205264b1b72e915070cec6f"), looks := false }, kinds := [], alts := [], laidByText := true, laidKinds := [.data, .pinned], laidTests := true, laidLooks := .later }
def SymBackCardSaid : Prop := Claim7.holds Tryd.pinned (.plain (OpenSpec.ofChange symBackSpec)) symBackCard

/-- THE TIED CARD OF 'splicerlaw38.ScriptReads'. -/
def scriptReadsCard : Claim7 := { stood := { row := scriptReadsRow, standIns := [], harness := (true, "4f18ac8cac3e4280e8b72fdba761006055070aafd205264b1b72e915070cec6f"), looks := false }, kinds := [], alts := [], laidByText := true, laidKinds := [.data, .data, .data, .data, .pinned], laidTests := true, laidLooks := .later }
def ScriptReadsCardSaid : Prop := Claim7.holds Tryd.pinned (.plain (OpenSpec.ofChange scriptReadsSpec)) scriptReadsCard

/-- THE TIED CARD OF 'splicerlaw38.ScriptLines'. -/
def scriptLinesCard : Claim7 := { stood := { row := scriptLinesRow, standIns := [], harness := (true, "4f18ac8cac3e4280e8b72fdba761006055070aafd205264b1b72e915070cec6f"), looks := false }, kinds := [], alts := [], laidByText := true, laidKinds := [.data, .data, .data, .data, .pinned], laidTests := true, laidLooks := .later }
def ScriptLinesCardSaid : Prop := Claim7.holds Tryd.pinned (.plain (OpenSpec.ofChange scriptLinesSpec)) scriptLinesCard

/-- THE TIED CARD OF 'splicerlaw38.ScriptBack'. -/
def scriptBackCard : Claim7 := { stood := { row := scriptBackRow, standIns := [], harness := (true, "4f18ac8cac3e4280e8b72fdba761006055070aafd205264b1b72e915070cec6f"), looks := false }, kinds := [], alts := [], laidByText := true, laidKinds := [.data, .data, .data, .data, .pinned], laidTests := true, laidLooks := .later }
def ScriptBackCardSaid : Prop := Claim7.holds Tryd.pinned (.plain (OpenSpec.ofChange scriptBackSpec)) scriptBackCard

/-- THE SECOND FORM's CARD OF 'splicerlaw05.SymPuts'. -/
def symPutsUptoCard : Claim7 := { stood := { row := symPutsUptoRow, standIns := [], harness := (true, "4f18ac8cac3e4280e8b72fdba761006055070aafd205264b1b72e915070cec6f"), looks := false }, kinds := [], alts := [], laidByText := true, laidKinds := [.data, .pinned], laidTests := true, laidLooks := .later }
def SymPutsUptoCardSaid : Prop := Claim7.holds Tryd.pinned (.plain (OpenSpec.upto symPutsSpec)) symPutsUptoCard

/-- THE SECOND FORM's CARD OF 'splicerlaw05.SymGets'. -/
def symGetsUptoCard : Claim7 := { stood := { row := symGetsUptoRow, standIns := [], harness := (true, "4f18ac8cac3e4280e8b72fdba761006055070aafd205264b1b72e915070cec6f"), looks := false }, kinds := [], alts := [], laidByText := true, laidKinds := [.data, .pinned], laidTests := true, laidLooks := .later }
def SymGetsUptoCardSaid : Prop := Claim7.holds Tryd.pinned (.plain (OpenSpec.upto symGetsSpec)) symGetsUptoCard

/-- THE SECOND FORM's CARD OF 'splicerlaw05.SymBack'. -/
def symBackUptoCard : Claim7 := { stood := { row := symBackUptoRow, standIns := [], harness := (true, "4f18ac8cac3e4280e8b72fdba761006055070aafd205264b1b72e915070cec6f"), looks := false }, kinds := [], alts := [], laidByText := true, laidKinds := [.data, .pinned], laidTests := true, laidLooks := .later }
def SymBackUptoCardSaid : Prop := Claim7.holds Tryd.pinned (.plain (OpenSpec.upto symBackSpec)) symBackUptoCard

/-- THE SECOND FORM's CARD OF 'splicerlaw38.ScriptReads'. -/
def scriptReadsUptoCard : Claim7 := { stood := { row := scriptReadsUptoRow, standIns := [], harness := (true, "4f18ac8cac3e4280e8b72fdba761006055070aafd205264b1b72e915070cec6f"), looks := false }, kinds := [], alts := [], laidByText := true, laidKinds := [.data, .data, .data, .data, .pinned], laidTests := true, laidLooks := .later }
def ScriptReadsUptoCardSaid : Prop := Claim7.holds Tryd.pinned (.plain (OpenSpec.upto scriptReadsSpec)) scriptReadsUptoCard

/-- THE SECOND FORM's CARD OF 'splicerlaw38.ScriptLines'. -/
def scriptLinesUptoCard : Claim7 := { stood := { row := scriptLinesUptoRow, standIns := [], harness := (true, "4f18ac8cac3e4280e8b72fdba761006055070aafd205264b1b72e915070cec6f"), looks := false }, kinds := [], alts := [], laidByText := true, laidKinds := [.data, .data, .data, .data, .pinned], laidTests := true, laidLooks := .later }
def ScriptLinesUptoCardSaid : Prop := Claim7.holds Tryd.pinned (.plain (OpenSpec.upto scriptLinesSpec)) scriptLinesUptoCard

/-- THE SECOND FORM's CARD OF 'splicerlaw38.ScriptBack'. -/
def scriptBackUptoCard : Claim7 := { stood := { row := scriptBackUptoRow, standIns := [], harness := (true, "4f18ac8cac3e4280e8b72fdba761006055070aafd205264b1b72e915070cec6f"), looks := false }, kinds := [], alts := [], laidByText := true, laidKinds := [.data, .data, .data, .data, .pinned], laidTests := true, laidLooks := .later }
def ScriptBackUptoCardSaid : Prop := Claim7.holds Tryd.pinned (.plain (OpenSpec.upto scriptBackSpec)) scriptBackUptoCard
end Rows
end Go.Proofs.YtimominjaikblabDoor
