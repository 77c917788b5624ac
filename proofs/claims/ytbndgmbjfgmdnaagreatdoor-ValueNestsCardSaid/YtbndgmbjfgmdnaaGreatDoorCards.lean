/-
  DERIVED. GIVEN WITH THE SEED: THE CARDS: each row of YtbndgmbjfgmdnaaGreatDoorRows.lean that lists a variable, with what it lists TIED to the program's text (the seventh form; the later family's looks); each row that meets fmt, with fmt's text TOLD by the authors' own Lean function (tested against real Go, not proved from fmt's source: count such statements apart). THE CARD IS WHAT COUNTS. Prove the row's statement (the work); the ties are given (YtbndgmbjfgmdnaaGreatDoorTie.lean); close each card by the builder's one call (the guide's Derived/Test/ToyasCard.lean, 'card_holds'). Laid BY PROGRAM, IN A SANDBOX (cutbox-door.mjs). By AI agents, Wed Nov 11 2026. No macro, syntax, notation, axiom, sorry.
-/
import Derived.Test.YtbndgmbjfgmdnaaGreatDoorRows
import GoSem.ClaimSeven
namespace Go.Proofs.YtbndgmbjfgmdnaaGreatDoor
namespace Rows

/-- THE TIED CARD OF 'pipelinelaw07.ValueValid'. -/
def valueValidCard : Claim7 := { stood := { row := valueValidRow, standIns := [], harness := (true, "7726fc2077c72dbda8a4df03a263f3dcc285b15a62b94ddaba3c43cb5b018458"), looks := false }, kinds := [], alts := [], laidByText := true, laidKinds := [.data, .data, .data, .data, .pinned], laidTests := true, laidLooks := .later }
def ValueValidCardSaid : Prop := Claim7.holds Tryz.pinned (.plain (OpenSpec.ofChange valueValidSpec)) valueValidCard

/-- THE TIED CARD OF 'pipelinelaw07.ValueOrder'. -/
def valueOrderCard : Claim7 := { stood := { row := valueOrderRow, standIns := [], harness := (true, "7726fc2077c72dbda8a4df03a263f3dcc285b15a62b94ddaba3c43cb5b018458"), looks := false }, kinds := [], alts := [], laidByText := true, laidKinds := [.data, .data, .data, .data, .pinned], laidTests := true, laidLooks := .later }
def ValueOrderCardSaid : Prop := Claim7.holds Tryz.pinned (.plain (OpenSpec.ofChange valueOrderSpec)) valueOrderCard

/-- THE TIED CARD OF 'pipelinelaw07.ValueShows'. -/
def valueShowsCard : Claim7 := { stood := { row := valueShowsRow, standIns := [], harness := (true, "7726fc2077c72dbda8a4df03a263f3dcc285b15a62b94ddaba3c43cb5b018458"), looks := false }, kinds := [], alts := [], laidByText := true, laidKinds := [.data, .data, .data, .data, .pinned], laidTests := true, laidLooks := .later }
def ValueShowsCardSaid : Prop := Claim7.holds Tryz.pinned (.plain (OpenSpec.ofChange valueShowsSpec)) valueShowsCard

/-- THE TIED CARD OF 'pipelinelaw07.ValueShown'. -/
def valueShownCard : Claim7 := { stood := { row := valueShownRow, standIns := [], harness := (true, "7726fc2077c72dbda8a4df03a263f3dcc285b15a62b94ddaba3c43cb5b018458"), looks := false }, kinds := [], alts := [], laidByText := true, laidKinds := [.data, .data, .data, .data, .pinned], laidTests := true, laidLooks := .later }
def ValueShownCardSaid : Prop := Claim7.holds Tryz.pinned (.plain (OpenSpec.ofChange valueShownSpec)) valueShownCard

/-- THE TIED CARD OF 'pipelinelaw07.ValueMaps'. -/
def valueMapsCard : Claim7 := { stood := { row := valueMapsRow, standIns := [], harness := (true, "7726fc2077c72dbda8a4df03a263f3dcc285b15a62b94ddaba3c43cb5b018458"), looks := false }, kinds := [], alts := [], laidByText := true, laidKinds := [.data, .data, .data, .data, .pinned], laidTests := true, laidLooks := .later }
def ValueMapsCardSaid : Prop := Claim7.holds Tryz.pinned (.plain (OpenSpec.ofChange valueMapsSpec)) valueMapsCard

/-- THE TIED CARD OF 'pipelinelaw07.ValueMapsOrder'. -/
def valueMapsOrderCard : Claim7 := { stood := { row := valueMapsOrderRow, standIns := [], harness := (true, "7726fc2077c72dbda8a4df03a263f3dcc285b15a62b94ddaba3c43cb5b018458"), looks := false }, kinds := [], alts := [], laidByText := true, laidKinds := [.data, .data, .data, .data, .pinned], laidTests := true, laidLooks := .later }
def ValueMapsOrderCardSaid : Prop := Claim7.holds Tryz.pinned (.plain (OpenSpec.ofChange valueMapsOrderSpec)) valueMapsOrderCard

/-- THE TIED CARD OF 'pipelinelaw07.ValueEntries'. -/
def valueEntriesCard : Claim7 := { stood := { row := valueEntriesRow, standIns := [], harness := (true, "7726fc2077c72dbda8a4df03a263f3dcc285b15a62b94ddaba3c43cb5b018458"), looks := false }, kinds := [], alts := [], laidByText := true, laidKinds := [.data, .data, .data, .data, .pinned], laidTests := true, laidLooks := .later }
def ValueEntriesCardSaid : Prop := Claim7.holds Tryz.pinned (.plain (OpenSpec.ofChange valueEntriesSpec)) valueEntriesCard

/-- THE TIED CARD OF 'pipelinelaw07.ValueBack'. -/
def valueBackCard : Claim7 := { stood := { row := valueBackRow, standIns := [], harness := (true, "7726fc2077c72dbda8a4df03a263f3dcc285b15a62b94ddaba3c43cb5b018458"), looks := false }, kinds := [], alts := [], laidByText := true, laidKinds := [.data, .data, .data, .data, .pinned], laidTests := true, laidLooks := .later }
def ValueBackCardSaid : Prop := Claim7.holds Tryz.pinned (.plain (OpenSpec.ofChange valueBackSpec)) valueBackCard

/-- THE TIED CARD OF 'pipelinelaw07.ValueNests'. -/
def valueNestsCard : Claim7 := { stood := { row := valueNestsRow, standIns := [], harness := (true, "7726fc2077c72dbda8a4df03a263f3dcc285b15a62b94ddaba3c43cb5b018458"), looks := false }, kinds := [], alts := [], laidByText := true, laidKinds := [.data, .data, .data, .data, .pinned], laidTests := true, laidLooks := .later }
def ValueNestsCardSaid : Prop := Claim7.holds Tryz.pinned (.plain (OpenSpec.ofChange valueNestsSpec)) valueNestsCard

/-- THE SECOND FORM's CARD OF 'pipelinelaw07.ValueValid'. -/
def valueValidUptoCard : Claim7 := { stood := { row := valueValidUptoRow, standIns := [], harness := (true, "7726fc2077c72dbda8a4df03a263f3dcc285b15a62b94ddaba3c43cb5b018458"), looks := false }, kinds := [], alts := [], laidByText := true, laidKinds := [.data, .data, .data, .data, .pinned], laidTests := true, laidLooks := .later }
def ValueValidUptoCardSaid : Prop := Claim7.holds Tryz.pinned (.plain (OpenSpec.upto valueValidSpec)) valueValidUptoCard

/-- THE SECOND FORM's CARD OF 'pipelinelaw07.ValueOrder'. -/
def valueOrderUptoCard : Claim7 := { stood := { row := valueOrderUptoRow, standIns := [], harness := (true, "7726fc2077c72dbda8a4df03a263f3dcc285b15a62b94ddaba3c43cb5b018458"), looks := false }, kinds := [], alts := [], laidByText := true, laidKinds := [.data, .data, .data, .data, .pinned], laidTests := true, laidLooks := .later }
def ValueOrderUptoCardSaid : Prop := Claim7.holds Tryz.pinned (.plain (OpenSpec.upto valueOrderSpec)) valueOrderUptoCard

/-- THE SECOND FORM's CARD OF 'pipelinelaw07.ValueShows'. -/
def valueShowsUptoCard : Claim7 := { stood := { row := valueShowsUptoRow, standIns := [], harness := (true, "7726fc2077c72dbda8a4df03a263f3dcc285b15a62b94ddaba3c43cb5b018458"), looks := false }, kinds := [], alts := [], laidByText := true, laidKinds := [.data, .data, .data, .data, .pinned], laidTests := true, laidLooks := .later }
def ValueShowsUptoCardSaid : Prop := Claim7.holds Tryz.pinned (.plain (OpenSpec.upto valueShowsSpec)) valueShowsUptoCard

/-- THE SECOND FORM's CARD OF 'pipelinelaw07.ValueShown'. -/
def valueShownUptoCard : Claim7 := { stood := { row := valueShownUptoRow, standIns := [], harness := (true, "7726fc2077c72dbda8a4df03a263f3dcc285b15a62b94ddaba3c43cb5b018458"), looks := false }, kinds := [], alts := [], laidByText := true, laidKinds := [.data, .data, .data, .data, .pinned], laidTests := true, laidLooks := .later }
def ValueShownUptoCardSaid : Prop := Claim7.holds Tryz.pinned (.plain (OpenSpec.upto valueShownSpec)) valueShownUptoCard

/-- THE SECOND FORM's CARD OF 'pipelinelaw07.ValueMaps'. -/
def valueMapsUptoCard : Claim7 := { stood := { row := valueMapsUptoRow, standIns := [], harness := (true, "7726fc2077c72dbda8a4df03a263f3dcc285b15a62b94ddaba3c43cb5b018458"), looks := false }, kinds := [], alts := [], laidByText := true, laidKinds := [.data, .data, .data, .data, .pinned], laidTests := true, laidLooks := .later }
def ValueMapsUptoCardSaid : Prop := Claim7.holds Tryz.pinned (.plain (OpenSpec.upto valueMapsSpec)) valueMapsUptoCard

/-- THE SECOND FORM's CARD OF 'pipelinelaw07.ValueMapsOrder'. -/
def valueMapsOrderUptoCard : Claim7 := { stood := { row := valueMapsOrderUptoRow, standIns := [], harness := (true, "7726fc2077c72dbda8a4df03a263f3dcc285b15a62b94ddaba3c43cb5b018458"), looks := false }, kinds := [], alts := [], laidByText := true, laidKinds := [.data, .data, .data, .data, .pinned], laidTests := true, laidLooks := .later }
def ValueMapsOrderUptoCardSaid : Prop := Claim7.holds Tryz.pinned (.plain (OpenSpec.upto valueMapsOrderSpec)) valueMapsOrderUptoCard

/-- THE SECOND FORM's CARD OF 'pipelinelaw07.ValueEntries'. -/
def valueEntriesUptoCard : Claim7 := { stood := { row := valueEntriesUptoRow, standIns := [], harness := (true, "7726fc2077c72dbda8a4df03a263f3dcc285b15a62b94ddaba3c43cb5b018458"), looks := false }, kinds := [], alts := [], laidByText := true, laidKinds := [.data, .data, .data, .data, .pinned], laidTests := true, laidLooks := .later }
def ValueEntriesUptoCardSaid : Prop := Claim7.holds Tryz.pinned (.plain (OpenSpec.upto valueEntriesSpec)) valueEntriesUptoCard

/-- THE SECOND FORM's CARD OF 'pipelinelaw07.ValueBack'. -/
def valueBackUptoCard : Claim7 := { stood := { row := valueBackUptoRow, standIns := [], harness := (true, "7726fc2077c72dbda8a4df03a263f3dcc285b15a62b94ddaba3c43cb5b018458"), looks := false }, kinds := [], alts := [], laidByText := true, laidKinds := [.data, .data, .data, .data, .pinned], laidTests := true, laidLooks := .later }
def ValueBackUptoCardSaid : Prop := Claim7.holds Tryz.pinned (.plain (OpenSpec.upto valueBackSpec)) valueBackUptoCard

/-- THE SECOND FORM's CARD OF 'pipelinelaw07.ValueNests'. -/
def valueNestsUptoCard : Claim7 := { stood := { row := valueNestsUptoRow, standIns := [], harness := (true, "7726fc2077c72dbda8a4df03a263f3dcc285b15a62b94ddaba3c43cb5b018458"), looks := false }, kinds := [], alts := [], laidByText := true, laidKinds := [.data, .data, .data, .data, .pinned], laidTests := true, laidLooks := .later }
def ValueNestsUptoCardSaid : Prop := Claim7.holds Tryz.pinned (.plain (OpenSpec.upto valueNestsSpec)) valueNestsUptoCard
end Rows
end Go.Proofs.YtbndgmbjfgmdnaaGreatDoor
