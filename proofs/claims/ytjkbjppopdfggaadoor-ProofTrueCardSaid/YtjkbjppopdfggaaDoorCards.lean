/-
  DERIVED. GIVEN WITH THE SEED: THE CARDS: each row of YtjkbjppopdfggaaDoorRows.lean that lists a variable, with what it lists TIED to the program's text (the seventh form; the later family's looks); each row that meets fmt, with fmt's text TOLD by the authors' own Lean function (tested against real Go, not proved from fmt's source: count such statements apart). THE CARD IS WHAT COUNTS. Prove the row's statement (the work); the ties are given (YtjkbjppopdfggaaDoorTie.lean); close each card by the builder's one call (the guide's Derived/Test/ToyasCard.lean, 'card_holds'). Laid BY PROGRAM, IN A SANDBOX (cutbox-door.mjs). By AI agents, Wed Nov 11 2026. No macro, syntax, notation, axiom, sorry.
-/
import Derived.Test.YtjkbjppopdfggaaDoorRows
import GoSem.ClaimSeven
namespace Go.Proofs.YtjkbjppopdfggaaDoor
namespace Rows

/-- THE TIED CARD OF 'preludelaw24.ProofSums'. -/
def proofSumsCard : Claim7 := { stood := { row := proofSumsRow, standIns := [], harness := (true, "d6a3d217a53e6d133b6d6a055214b90cbfb6884868acd7576f5149721fd4b5c8"), looks := false }, kinds := [], alts := [], laidByText := true, laidKinds := [.data, .data], laidTests := true, laidLooks := .later }
def ProofSumsCardSaid : Prop := Claim7.holds Tryd.pinned (.plain (OpenSpec.ofChange proofSumsSpec)) proofSumsCard

/-- THE TIED CARD OF 'preludelaw24.ProofNodes'. -/
def proofNodesCard : Claim7 := { stood := { row := proofNodesRow, standIns := [], harness := (true, "d6a3d217a53e6d133b6d6a055214b90cbfb6884868acd7576f5149721fd4b5c8"), looks := false }, kinds := [], alts := [], laidByText := true, laidKinds := [.data, .data], laidTests := true, laidLooks := .later }
def ProofNodesCardSaid : Prop := Claim7.holds Tryd.pinned (.plain (OpenSpec.ofChange proofNodesSpec)) proofNodesCard

/-- THE TIED CARD OF 'preludelaw24.ProofVerifies'. -/
def proofVerifiesCard : Claim7 := { stood := { row := proofVerifiesRow, standIns := [], harness := (true, "d6a3d217a53e6d133b6d6a055214b90cbfb6884868acd7576f5149721fd4b5c8"), looks := false }, kinds := [], alts := [], laidByText := true, laidKinds := [.data, .data], laidTests := true, laidLooks := .later }
def ProofVerifiesCardSaid : Prop := Claim7.holds Tryd.pinned (.plain (OpenSpec.ofChange proofVerifiesSpec)) proofVerifiesCard

/-- THE TIED CARD OF 'preludelaw24.ProofDiffs'. -/
def proofDiffsCard : Claim7 := { stood := { row := proofDiffsRow, standIns := [], harness := (true, "d6a3d217a53e6d133b6d6a055214b90cbfb6884868acd7576f5149721fd4b5c8"), looks := false }, kinds := [], alts := [], laidByText := true, laidKinds := [.data, .data], laidTests := true, laidLooks := .later }
def ProofDiffsCardSaid : Prop := Claim7.holds Tryd.pinned (.plain (OpenSpec.ofChange proofDiffsSpec)) proofDiffsCard

/-- THE TIED CARD OF 'preludelaw24.ProofTrees'. -/
def proofTreesCard : Claim7 := { stood := { row := proofTreesRow, standIns := [], harness := (true, "d6a3d217a53e6d133b6d6a055214b90cbfb6884868acd7576f5149721fd4b5c8"), looks := false }, kinds := [], alts := [], laidByText := true, laidKinds := [.data, .data], laidTests := true, laidLooks := .later }
def ProofTreesCardSaid : Prop := Claim7.holds Tryd.pinned (.plain (OpenSpec.ofChange proofTreesSpec)) proofTreesCard

/-- THE TIED CARD OF 'preludelaw24.ProofTrue'. -/
def proofTrueCard : Claim7 := { stood := { row := proofTrueRow, standIns := [], harness := (true, "d6a3d217a53e6d133b6d6a055214b90cbfb6884868acd7576f5149721fd4b5c8"), looks := false }, kinds := [], alts := [], laidByText := true, laidKinds := [.data, .data], laidTests := true, laidLooks := .later }
def ProofTrueCardSaid : Prop := Claim7.holds Tryd.pinned (.plain (OpenSpec.ofChange proofTrueSpec)) proofTrueCard

/-- THE TIED CARD OF 'preludelaw24.ProofRoots'. -/
def proofRootsCard : Claim7 := { stood := { row := proofRootsRow, standIns := [], harness := (true, "d6a3d217a53e6d133b6d6a055214b90cbfb6884868acd7576f5149721fd4b5c8"), looks := false }, kinds := [], alts := [], laidByText := true, laidKinds := [.data, .data], laidTests := true, laidLooks := .later }
def ProofRootsCardSaid : Prop := Claim7.holds Tryd.pinned (.plain (OpenSpec.ofChange proofRootsSpec)) proofRootsCard

/-- THE TIED CARD OF 'preludelaw24.ProofFinds'. -/
def proofFindsCard : Claim7 := { stood := { row := proofFindsRow, standIns := [], harness := (true, "d6a3d217a53e6d133b6d6a055214b90cbfb6884868acd7576f5149721fd4b5c8"), looks := false }, kinds := [], alts := [], laidByText := true, laidKinds := [.data, .data], laidTests := true, laidLooks := .later }
def ProofFindsCardSaid : Prop := Claim7.holds Tryd.pinned (.plain (OpenSpec.ofChange proofFindsSpec)) proofFindsCard

/-- THE TIED CARD OF 'preludelaw24.ProofChanges'. -/
def proofChangesCard : Claim7 := { stood := { row := proofChangesRow, standIns := [], harness := (true, "d6a3d217a53e6d133b6d6a055214b90cbfb6884868acd7576f5149721fd4b5c8"), looks := false }, kinds := [], alts := [], laidByText := true, laidKinds := [.data, .data], laidTests := true, laidLooks := .later }
def ProofChangesCardSaid : Prop := Claim7.holds Tryd.pinned (.plain (OpenSpec.ofChange proofChangesSpec)) proofChangesCard

/-- THE SECOND FORM's CARD OF 'preludelaw24.ProofSums'. -/
def proofSumsUptoCard : Claim7 := { stood := { row := proofSumsUptoRow, standIns := [], harness := (true, "d6a3d217a53e6d133b6d6a055214b90cbfb6884868acd7576f5149721fd4b5c8"), looks := false }, kinds := [], alts := [], laidByText := true, laidKinds := [.data, .data], laidTests := true, laidLooks := .later }
def ProofSumsUptoCardSaid : Prop := Claim7.holds Tryd.pinned (.plain (OpenSpec.upto proofSumsSpec)) proofSumsUptoCard

/-- THE SECOND FORM's CARD OF 'preludelaw24.ProofNodes'. -/
def proofNodesUptoCard : Claim7 := { stood := { row := proofNodesUptoRow, standIns := [], harness := (true, "d6a3d217a53e6d133b6d6a055214b90cbfb6884868acd7576f5149721fd4b5c8"), looks := false }, kinds := [], alts := [], laidByText := true, laidKinds := [.data, .data], laidTests := true, laidLooks := .later }
def ProofNodesUptoCardSaid : Prop := Claim7.holds Tryd.pinned (.plain (OpenSpec.upto proofNodesSpec)) proofNodesUptoCard

/-- THE SECOND FORM's CARD OF 'preludelaw24.ProofVerifies'. -/
def proofVerifiesUptoCard : Claim7 := { stood := { row := proofVerifiesUptoRow, standIns := [], harness := (true, "d6a3d217a53e6d133b6d6a055214b90cbfb6884868acd7576f5149721fd4b5c8"), looks := false }, kinds := [], alts := [], laidByText := true, laidKinds := [.data, .data], laidTests := true, laidLooks := .later }
def ProofVerifiesUptoCardSaid : Prop := Claim7.holds Tryd.pinned (.plain (OpenSpec.upto proofVerifiesSpec)) proofVerifiesUptoCard

/-- THE SECOND FORM's CARD OF 'preludelaw24.ProofDiffs'. -/
def proofDiffsUptoCard : Claim7 := { stood := { row := proofDiffsUptoRow, standIns := [], harness := (true, "d6a3d217a53e6d133b6d6a055214b90cbfb6884868acd7576f5149721fd4b5c8"), looks := false }, kinds := [], alts := [], laidByText := true, laidKinds := [.data, .data], laidTests := true, laidLooks := .later }
def ProofDiffsUptoCardSaid : Prop := Claim7.holds Tryd.pinned (.plain (OpenSpec.upto proofDiffsSpec)) proofDiffsUptoCard

/-- THE SECOND FORM's CARD OF 'preludelaw24.ProofTrees'. -/
def proofTreesUptoCard : Claim7 := { stood := { row := proofTreesUptoRow, standIns := [], harness := (true, "d6a3d217a53e6d133b6d6a055214b90cbfb6884868acd7576f5149721fd4b5c8"), looks := false }, kinds := [], alts := [], laidByText := true, laidKinds := [.data, .data], laidTests := true, laidLooks := .later }
def ProofTreesUptoCardSaid : Prop := Claim7.holds Tryd.pinned (.plain (OpenSpec.upto proofTreesSpec)) proofTreesUptoCard

/-- THE SECOND FORM's CARD OF 'preludelaw24.ProofTrue'. -/
def proofTrueUptoCard : Claim7 := { stood := { row := proofTrueUptoRow, standIns := [], harness := (true, "d6a3d217a53e6d133b6d6a055214b90cbfb6884868acd7576f5149721fd4b5c8"), looks := false }, kinds := [], alts := [], laidByText := true, laidKinds := [.data, .data], laidTests := true, laidLooks := .later }
def ProofTrueUptoCardSaid : Prop := Claim7.holds Tryd.pinned (.plain (OpenSpec.upto proofTrueSpec)) proofTrueUptoCard

/-- THE SECOND FORM's CARD OF 'preludelaw24.ProofRoots'. -/
def proofRootsUptoCard : Claim7 := { stood := { row := proofRootsUptoRow, standIns := [], harness := (true, "d6a3d217a53e6d133b6d6a055214b90cbfb6884868acd7576f5149721fd4b5c8"), looks := false }, kinds := [], alts := [], laidByText := true, laidKinds := [.data, .data], laidTests := true, laidLooks := .later }
def ProofRootsUptoCardSaid : Prop := Claim7.holds Tryd.pinned (.plain (OpenSpec.upto proofRootsSpec)) proofRootsUptoCard

/-- THE SECOND FORM's CARD OF 'preludelaw24.ProofFinds'. -/
def proofFindsUptoCard : Claim7 := { stood := { row := proofFindsUptoRow, standIns := [], harness := (true, "d6a3d217a53e6d133b6d6a055214b90cbfb6884868acd7576f5149721fd4b5c8"), looks := false }, kinds := [], alts := [], laidByText := true, laidKinds := [.data, .data], laidTests := true, laidLooks := .later }
def ProofFindsUptoCardSaid : Prop := Claim7.holds Tryd.pinned (.plain (OpenSpec.upto proofFindsSpec)) proofFindsUptoCard

/-- THE SECOND FORM's CARD OF 'preludelaw24.ProofChanges'. -/
def proofChangesUptoCard : Claim7 := { stood := { row := proofChangesUptoRow, standIns := [], harness := (true, "d6a3d217a53e6d133b6d6a055214b90cbfb6884868acd7576f5149721fd4b5c8"), looks := false }, kinds := [], alts := [], laidByText := true, laidKinds := [.data, .data], laidTests := true, laidLooks := .later }
def ProofChangesUptoCardSaid : Prop := Claim7.holds Tryd.pinned (.plain (OpenSpec.upto proofChangesSpec)) proofChangesUptoCard
end Rows
end Go.Proofs.YtjkbjppopdfggaaDoor
