/-
  DERIVED. GIVEN WITH THE SEED: THE CARDS: each row of YtimominjaikblaaDoorRows.lean that lists a variable, with what it lists TIED to the program's text (the seventh form; the later family's looks); each row that meets fmt, with fmt's text TOLD by the authors' own Lean function (tested against real Go, not proved from fmt's source: count such statements apart). THE CARD IS WHAT COUNTS. Prove the row's statement (the work); the ties are given (YtimominjaikblaaDoorTie.lean); close each card by the builder's one call (the guide's Derived/Test/ToyasCard.lean, 'card_holds'). Laid BY PROGRAM, IN A SANDBOX (cutbox-door.mjs). By AI agents, Wed Nov 11 2026. No macro, syntax, notation, axiom, sorry.
-/
import Derived.Test.YtimominjaikblaaDoorRows
import GoSem.ClaimSeven
namespace Go.Proofs.YtimominjaikblaaDoor
namespace Rows

/-- THE TIED CARD OF 'splicerlaw04.RcCodes'. -/
def rcCodesCard : Claim7 := { stood := { row := rcCodesRow, standIns := [], harness := (true, "59a2e479ccc241cd030f6db93b789bc1eb72cbcb65af35c5dede2aed70ecf746"), looks := false }, kinds := [], alts := [], laidByText := true, laidKinds := [.data, .pinned], laidTests := true, laidLooks := .later }
def RcCodesCardSaid : Prop := Claim7.holds Tryd.pinned (.plain (OpenSpec.ofChange rcCodesSpec)) rcCodesCard

/-- THE TIED CARD OF 'splicerlaw04.RcFinds'. -/
def rcFindsCard : Claim7 := { stood := { row := rcFindsRow, standIns := [], harness := (true, "59a2e479ccc241cd030f6db93b789bc1eb72cbcb65af35c5dede2aed70ecf746"), looks := false }, kinds := [], alts := [], laidByText := true, laidKinds := [.data, .pinned], laidTests := true, laidLooks := .later }
def RcFindsCardSaid : Prop := Claim7.holds Tryd.pinned (.plain (OpenSpec.ofChange rcFindsSpec)) rcFindsCard

/-- THE TIED CARD OF 'splicerlaw04.RcBack'. -/
def rcBackCard : Claim7 := { stood := { row := rcBackRow, standIns := [], harness := (true, "59a2e479ccc241cd030f6db93b789bc1eb72cbcb65af35c5dede2aed70ecf746"), looks := false }, kinds := [], alts := [], laidByText := true, laidKinds := [.data, .pinned], laidTests := true, laidLooks := .later }
def RcBackCardSaid : Prop := Claim7.holds Tryd.pinned (.plain (OpenSpec.ofChange rcBackSpec)) rcBackCard

/-- THE TIED CARD OF 'splicerlaw04.RcNobody'. -/
def rcNobodyCard : Claim7 := { stood := { row := rcNobodyRow, standIns := [], harness := (true, "59a2e479ccc241cd030f6db93b789bc1eb72cbcb65af35c5dede2aed70ecf746"), looks := false }, kinds := [], alts := [], laidByText := true, laidKinds := [.data, .pinned], laidTests := true, laidLooks := .later }
def RcNobodyCardSaid : Prop := Claim7.holds Tryd.pinned (.plain (OpenSpec.ofChange rcNobodySpec)) rcNobodyCard

/-- THE TIED CARD OF 'splicerlaw48.NormTells'. -/
def normTellsCard : Claim7 := { stood := { row := normTellsRow, standIns := [], harness := (true, "59a2e479ccc241cd030f6db93b789bc1eb72cbcb65af35c5dede2aed70ecf746"), looks := false }, kinds := [], alts := [], laidByText := true, laidKinds := [.data, .data, .data], laidTests := true, laidLooks := .later }
def NormTellsCardSaid : Prop := Claim7.holds Tryd.pinned (.plain (OpenSpec.ofChange normTellsSpec)) normTellsCard

/-- THE TIED CARD OF 'splicerlaw48.NormBest'. -/
def normBestCard : Claim7 := { stood := { row := normBestRow, standIns := [], harness := (true, "59a2e479ccc241cd030f6db93b789bc1eb72cbcb65af35c5dede2aed70ecf746"), looks := false }, kinds := [], alts := [], laidByText := true, laidKinds := [.data, .data, .data], laidTests := true, laidLooks := .later }
def NormBestCardSaid : Prop := Claim7.holds Tryd.pinned (.plain (OpenSpec.ofChange normBestSpec)) normBestCard

/-- THE SECOND FORM's CARD OF 'splicerlaw04.RcCodes'. -/
def rcCodesUptoCard : Claim7 := { stood := { row := rcCodesUptoRow, standIns := [], harness := (true, "59a2e479ccc241cd030f6db93b789bc1eb72cbcb65af35c5dede2aed70ecf746"), looks := false }, kinds := [], alts := [], laidByText := true, laidKinds := [.data, .pinned], laidTests := true, laidLooks := .later }
def RcCodesUptoCardSaid : Prop := Claim7.holds Tryd.pinned (.plain (OpenSpec.upto rcCodesSpec)) rcCodesUptoCard

/-- THE SECOND FORM's CARD OF 'splicerlaw04.RcFinds'. -/
def rcFindsUptoCard : Claim7 := { stood := { row := rcFindsUptoRow, standIns := [], harness := (true, "59a2e479ccc241cd030f6db93b789bc1eb72cbcb65af35c5dede2aed70ecf746"), looks := false }, kinds := [], alts := [], laidByText := true, laidKinds := [.data, .pinned], laidTests := true, laidLooks := .later }
def RcFindsUptoCardSaid : Prop := Claim7.holds Tryd.pinned (.plain (OpenSpec.upto rcFindsSpec)) rcFindsUptoCard

/-- THE SECOND FORM's CARD OF 'splicerlaw04.RcBack'. -/
def rcBackUptoCard : Claim7 := { stood := { row := rcBackUptoRow, standIns := [], harness := (true, "59a2e479ccc241cd030f6db93b789bc1eb72cbcb65af35c5dede2aed70ecf746"), looks := false }, kinds := [], alts := [], laidByText := true, laidKinds := [.data, .pinned], laidTests := true, laidLooks := .later }
def RcBackUptoCardSaid : Prop := Claim7.holds Tryd.pinned (.plain (OpenSpec.upto rcBackSpec)) rcBackUptoCard

/-- THE SECOND FORM's CARD OF 'splicerlaw04.RcNobody'. -/
def rcNobodyUptoCard : Claim7 := { stood := { row := rcNobodyUptoRow, standIns := [], harness := (true, "59a2e479ccc241cd030f6db93b789bc1eb72cbcb65af35c5dede2aed70ecf746"), looks := false }, kinds := [], alts := [], laidByText := true, laidKinds := [.data, .pinned], laidTests := true, laidLooks := .later }
def RcNobodyUptoCardSaid : Prop := Claim7.holds Tryd.pinned (.plain (OpenSpec.upto rcNobodySpec)) rcNobodyUptoCard

/-- THE SECOND FORM's CARD OF 'splicerlaw48.NormTells'. -/
def normTellsUptoCard : Claim7 := { stood := { row := normTellsUptoRow, standIns := [], harness := (true, "59a2e479ccc241cd030f6db93b789bc1eb72cbcb65af35c5dede2aed70ecf746"), looks := false }, kinds := [], alts := [], laidByText := true, laidKinds := [.data, .data, .data], laidTests := true, laidLooks := .later }
def NormTellsUptoCardSaid : Prop := Claim7.holds Tryd.pinned (.plain (OpenSpec.upto normTellsSpec)) normTellsUptoCard

/-- THE SECOND FORM's CARD OF 'splicerlaw48.NormBest'. -/
def normBestUptoCard : Claim7 := { stood := { row := normBestUptoRow, standIns := [], harness := (true, "59a2e479ccc241cd030f6db93b789bc1eb72cbcb65af35c5dede2aed70ecf746"), looks := false }, kinds := [], alts := [], laidByText := true, laidKinds := [.data, .data, .data], laidTests := true, laidLooks := .later }
def NormBestUptoCardSaid : Prop := Claim7.holds Tryd.pinned (.plain (OpenSpec.upto normBestSpec)) normBestUptoCard
end Rows
end Go.Proofs.YtimominjaikblaaDoor
