/-
  DERIVED. GIVEN WITH THE SEED: THE CARDS: each row of YtngbjnjkcniabaaGreatDoorRows.lean that lists a variable, with what it lists TIED to the program's text (the seventh form; the later family's looks); each row that meets fmt, with fmt's text TOLD by the authors' own Lean function (tested against real Go, not proved from fmt's source: count such statements apart). THE CARD IS WHAT COUNTS. Prove the row's statement (the work); the ties are given (YtngbjnjkcniabaaGreatDoorTie.lean); close each card by the builder's one call (the guide's Derived/Test/ToyasCard.lean, 'card_holds'). Laid BY PROGRAM, IN A SANDBOX (cutbox-door.mjs). By AI agents, Wed Nov 11 2026. No macro, syntax, notation, axiom, sorry.
-/
import Derived.Test.YtngbjnjkcniabaaGreatDoorRows
import GoSem.ClaimSeven
namespace Go.Proofs.YtngbjnjkcniabaaGreatDoor
namespace Rows

/-- THE TIED CARD OF 'pipelinelaw36.ReportParses'. -/
def reportParsesCard : Claim7 := { stood := { row := reportParsesRow, standIns := [], harness := (true, "cac9abe7c9620d817efe7ef4e45843deae5b0e645eceaac2d917872ac07456f2"), looks := true }, kinds := [], alts := [], laidByText := true, laidKinds := [.data, .data, .data, .data, .sentinel, .sentinel, .pinned], laidTests := true, laidLooks := .later }
def ReportParsesCardSaid : Prop := Claim7.holds Tryz.pinned (.plain (OpenSpec.ofChange reportParsesSpec)) reportParsesCard

/-- THE TIED CARD OF 'pipelinelaw36.ReportShows'. -/
def reportShowsCard : Claim7 := { stood := { row := reportShowsRow, standIns := [], harness := (true, "cac9abe7c9620d817efe7ef4e45843deae5b0e645eceaac2d917872ac07456f2"), looks := true }, kinds := [], alts := [], laidByText := true, laidKinds := [.data, .data, .data, .data, .sentinel, .sentinel, .pinned], laidTests := true, laidLooks := .later }
def ReportShowsCardSaid : Prop := Claim7.holds Tryz.pinned (.plain (OpenSpec.ofChange reportShowsSpec)) reportShowsCard

/-- THE TIED CARD OF 'pipelinelaw36.ReportStatuses'. -/
def reportStatusesCard : Claim7 := { stood := { row := reportStatusesRow, standIns := [], harness := (true, "cac9abe7c9620d817efe7ef4e45843deae5b0e645eceaac2d917872ac07456f2"), looks := true }, kinds := [], alts := [], laidByText := true, laidKinds := [.data, .data, .data, .data, .sentinel, .sentinel, .pinned], laidTests := true, laidLooks := .later }
def ReportStatusesCardSaid : Prop := Claim7.holds Tryz.pinned (.plain (OpenSpec.ofChange reportStatusesSpec)) reportStatusesCard

/-- THE TIED CARD OF 'pipelinelaw36.ReportLimits'. -/
def reportLimitsCard : Claim7 := { stood := { row := reportLimitsRow, standIns := [], harness := (true, "cac9abe7c9620d817efe7ef4e45843deae5b0e645eceaac2d917872ac07456f2"), looks := true }, kinds := [], alts := [], laidByText := true, laidKinds := [.data, .data, .data, .data, .sentinel, .sentinel, .pinned], laidTests := true, laidLooks := .later }
def ReportLimitsCardSaid : Prop := Claim7.holds Tryz.pinned (.plain (OpenSpec.ofChange reportLimitsSpec)) reportLimitsCard

/-- THE TIED CARD OF 'pipelinelaw36.ReportMerges'. -/
def reportMergesCard : Claim7 := { stood := { row := reportMergesRow, standIns := [], harness := (true, "cac9abe7c9620d817efe7ef4e45843deae5b0e645eceaac2d917872ac07456f2"), looks := true }, kinds := [], alts := [], laidByText := true, laidKinds := [.data, .data, .data, .data, .sentinel, .sentinel, .pinned], laidTests := true, laidLooks := .later }
def ReportMergesCardSaid : Prop := Claim7.holds Tryz.pinned (.plain (OpenSpec.ofChange reportMergesSpec)) reportMergesCard

/-- THE TIED CARD OF 'pipelinelaw36.ReportShards'. -/
def reportShardsCard : Claim7 := { stood := { row := reportShardsRow, standIns := [], harness := (true, "cac9abe7c9620d817efe7ef4e45843deae5b0e645eceaac2d917872ac07456f2"), looks := true }, kinds := [], alts := [], laidByText := true, laidKinds := [.data, .data, .data, .data, .sentinel, .sentinel, .pinned], laidTests := true, laidLooks := .later }
def ReportShardsCardSaid : Prop := Claim7.holds Tryz.pinned (.plain (OpenSpec.ofChange reportShardsSpec)) reportShardsCard

/-- THE SECOND FORM's CARD OF 'pipelinelaw36.ReportParses'. -/
def reportParsesUptoCard : Claim7 := { stood := { row := reportParsesUptoRow, standIns := [], harness := (true, "cac9abe7c9620d817efe7ef4e45843deae5b0e645eceaac2d917872ac07456f2"), looks := true }, kinds := [], alts := [], laidByText := true, laidKinds := [.data, .data, .data, .data, .sentinel, .sentinel, .pinned], laidTests := true, laidLooks := .later }
def ReportParsesUptoCardSaid : Prop := Claim7.holds Tryz.pinned (.plain (OpenSpec.upto reportParsesSpec)) reportParsesUptoCard

/-- THE SECOND FORM's CARD OF 'pipelinelaw36.ReportShows'. -/
def reportShowsUptoCard : Claim7 := { stood := { row := reportShowsUptoRow, standIns := [], harness := (true, "cac9abe7c9620d817efe7ef4e45843deae5b0e645eceaac2d917872ac07456f2"), looks := true }, kinds := [], alts := [], laidByText := true, laidKinds := [.data, .data, .data, .data, .sentinel, .sentinel, .pinned], laidTests := true, laidLooks := .later }
def ReportShowsUptoCardSaid : Prop := Claim7.holds Tryz.pinned (.plain (OpenSpec.upto reportShowsSpec)) reportShowsUptoCard

/-- THE SECOND FORM's CARD OF 'pipelinelaw36.ReportStatuses'. -/
def reportStatusesUptoCard : Claim7 := { stood := { row := reportStatusesUptoRow, standIns := [], harness := (true, "cac9abe7c9620d817efe7ef4e45843deae5b0e645eceaac2d917872ac07456f2"), looks := true }, kinds := [], alts := [], laidByText := true, laidKinds := [.data, .data, .data, .data, .sentinel, .sentinel, .pinned], laidTests := true, laidLooks := .later }
def ReportStatusesUptoCardSaid : Prop := Claim7.holds Tryz.pinned (.plain (OpenSpec.upto reportStatusesSpec)) reportStatusesUptoCard

/-- THE SECOND FORM's CARD OF 'pipelinelaw36.ReportLimits'. -/
def reportLimitsUptoCard : Claim7 := { stood := { row := reportLimitsUptoRow, standIns := [], harness := (true, "cac9abe7c9620d817efe7ef4e45843deae5b0e645eceaac2d917872ac07456f2"), looks := true }, kinds := [], alts := [], laidByText := true, laidKinds := [.data, .data, .data, .data, .sentinel, .sentinel, .pinned], laidTests := true, laidLooks := .later }
def ReportLimitsUptoCardSaid : Prop := Claim7.holds Tryz.pinned (.plain (OpenSpec.upto reportLimitsSpec)) reportLimitsUptoCard

/-- THE SECOND FORM's CARD OF 'pipelinelaw36.ReportMerges'. -/
def reportMergesUptoCard : Claim7 := { stood := { row := reportMergesUptoRow, standIns := [], harness := (true, "cac9abe7c9620d817efe7ef4e45843deae5b0e645eceaac2d917872ac07456f2"), looks := true }, kinds := [], alts := [], laidByText := true, laidKinds := [.data, .data, .data, .data, .sentinel, .sentinel, .pinned], laidTests := true, laidLooks := .later }
def ReportMergesUptoCardSaid : Prop := Claim7.holds Tryz.pinned (.plain (OpenSpec.upto reportMergesSpec)) reportMergesUptoCard

/-- THE SECOND FORM's CARD OF 'pipelinelaw36.ReportShards'. -/
def reportShardsUptoCard : Claim7 := { stood := { row := reportShardsUptoRow, standIns := [], harness := (true, "cac9abe7c9620d817efe7ef4e45843deae5b0e645eceaac2d917872ac07456f2"), looks := true }, kinds := [], alts := [], laidByText := true, laidKinds := [.data, .data, .data, .data, .sentinel, .sentinel, .pinned], laidTests := true, laidLooks := .later }
def ReportShardsUptoCardSaid : Prop := Claim7.holds Tryz.pinned (.plain (OpenSpec.upto reportShardsSpec)) reportShardsUptoCard
end Rows
end Go.Proofs.YtngbjnjkcniabaaGreatDoor
