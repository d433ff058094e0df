/-
  DERIVED. GIVEN WITH THE SEED: THE CARDS: each row of YtjchneebdlncfaaDoorRows.lean that lists a variable, with what it lists TIED to the program's text (the seventh form; the later family's looks); each row that meets fmt, with fmt's text TOLD by the authors' own Lean function (tested against real Go, not proved from fmt's source: count such statements apart). THE CARD IS WHAT COUNTS. Prove the row's statement (the work); the ties are given (YtjchneebdlncfaaDoorTie.lean); close each card by the builder's one call (the guide's Derived/Test/ToyasCard.lean, 'card_holds'). Laid BY PROGRAM, IN A SANDBOX (cutbox-door.mjs). By AI agents, Wed Nov 11 2026. No macro, syntax, notation, axiom, sorry.
-/
import Derived.Test.YtjchneebdlncfaaDoorRows
import GoSem.ClaimSeven
namespace Go.Proofs.YtjchneebdlncfaaDoor
namespace Rows

/-- THE TIED CARD OF 'preludelaw17.JournalScans'. -/
def journalScansCard : Claim7 := { stood := { row := journalScansRow, standIns := [], harness := (true, "a50524d72c41e4f9267cfc064105b938f0128aecf8e56ab44cfa7e673a7a88d7"), looks := true }, kinds := [], alts := [], laidByText := true, laidKinds := [.data], laidTests := true, laidLooks := .later }
def JournalScansCardSaid : Prop := Claim7.holds Tryd.pinned (.plain (OpenSpec.ofChange journalScansSpec)) journalScansCard

/-- THE TIED CARD OF 'preludelaw25.MergeFrames'. -/
def mergeFramesCard : Claim7 := { stood := { row := mergeFramesRow, standIns := [], harness := (true, "a50524d72c41e4f9267cfc064105b938f0128aecf8e56ab44cfa7e673a7a88d7"), looks := true }, kinds := [], alts := [], laidByText := true, laidKinds := [.data], laidTests := true, laidLooks := .later }
def MergeFramesCardSaid : Prop := Claim7.holds Tryd.pinned (.plain (OpenSpec.ofChange mergeFramesSpec)) mergeFramesCard

/-- THE TIED CARD OF 'preludelaw25.MergeForms'. -/
def mergeFormsCard : Claim7 := { stood := { row := mergeFormsRow, standIns := [], harness := (true, "a50524d72c41e4f9267cfc064105b938f0128aecf8e56ab44cfa7e673a7a88d7"), looks := true }, kinds := [], alts := [], laidByText := true, laidKinds := [.data], laidTests := true, laidLooks := .later }
def MergeFormsCardSaid : Prop := Claim7.holds Tryd.pinned (.plain (OpenSpec.ofChange mergeFormsSpec)) mergeFormsCard

/-- THE SECOND FORM's CARD OF 'preludelaw17.JournalScans'. -/
def journalScansUptoCard : Claim7 := { stood := { row := journalScansUptoRow, standIns := [], harness := (true, "a50524d72c41e4f9267cfc064105b938f0128aecf8e56ab44cfa7e673a7a88d7"), looks := true }, kinds := [], alts := [], laidByText := true, laidKinds := [.data], laidTests := true, laidLooks := .later }
def JournalScansUptoCardSaid : Prop := Claim7.holds Tryd.pinned (.plain (OpenSpec.upto journalScansSpec)) journalScansUptoCard

/-- THE SECOND FORM's CARD OF 'preludelaw25.MergeFrames'. -/
def mergeFramesUptoCard : Claim7 := { stood := { row := mergeFramesUptoRow, standIns := [], harness := (true, "a50524d72c41e4f9267cfc064105b938f0128aecf8e56ab44cfa7e673a7a88d7"), looks := true }, kinds := [], alts := [], laidByText := true, laidKinds := [.data], laidTests := true, laidLooks := .later }
def MergeFramesUptoCardSaid : Prop := Claim7.holds Tryd.pinned (.plain (OpenSpec.upto mergeFramesSpec)) mergeFramesUptoCard

/-- THE SECOND FORM's CARD OF 'preludelaw25.MergeForms'. -/
def mergeFormsUptoCard : Claim7 := { stood := { row := mergeFormsUptoRow, standIns := [], harness := (true, "a50524d72c41e4f9267cfc064105b938f0128aecf8e56ab44cfa7e673a7a88d7"), looks := true }, kinds := [], alts := [], laidByText := true, laidKinds := [.data], laidTests := true, laidLooks := .later }
def MergeFormsUptoCardSaid : Prop := Claim7.holds Tryd.pinned (.plain (OpenSpec.upto mergeFormsSpec)) mergeFormsUptoCard
end Rows
end Go.Proofs.YtjchneebdlncfaaDoor
