/-
  DERIVED. GIVEN WITH THE SEED: THE CARDS: each row of YtghahghbahcpfaaGreatDoorRows.lean that lists a variable, with what it lists TIED to the program's text (the seventh form; the later family's looks); each row that meets fmt, with fmt's text TOLD by the authors' own Lean function (tested against real Go, not proved from fmt's source: count such statements apart). THE CARD IS WHAT COUNTS. Prove the row's statement (the work); the ties are given (YtghahghbahcpfaaGreatDoorTie.lean); close each card by the builder's one call (the guide's Derived/Test/ToyasCard.lean, 'card_holds'). Laid BY PROGRAM, IN A SANDBOX (cutbox-door.mjs). By AI agents, Wed Nov 11 2026. No macro, syntax, notation, axiom, sorry.
-/
import Derived.Test.YtghahghbahcpfaaGreatDoorRows
import GoSem.ClaimSeven
namespace Go.Proofs.YtghahghbahcpfaaGreatDoor
namespace Rows

/-- THE TIED CARD OF 'pipelinelaw53.SandboxExecutes'. -/
def sandboxExecutesCard : Claim7 := { stood := { row := sandboxExecutesRow, standIns := [], harness := (true, "84eb0109fe1232c9228ca898b6f29447e47b584c95f8e0a032f074844ceaf3d7"), looks := false }, kinds := [], alts := [], laidByText := true, laidKinds := [.data, .pinned], laidTests := true, laidLooks := .later }
def SandboxExecutesCardSaid : Prop := Claim7.holds Tryz.pinned (.plain (OpenSpec.ofChange sandboxExecutesSpec)) sandboxExecutesCard

/-- THE TIED CARD OF 'pipelinelaw53.SandboxRestricts'. -/
def sandboxRestrictsCard : Claim7 := { stood := { row := sandboxRestrictsRow, standIns := [], harness := (true, "84eb0109fe1232c9228ca898b6f29447e47b584c95f8e0a032f074844ceaf3d7"), looks := false }, kinds := [], alts := [], laidByText := true, laidKinds := [.data, .pinned], laidTests := true, laidLooks := .later }
def SandboxRestrictsCardSaid : Prop := Claim7.holds Tryz.pinned (.plain (OpenSpec.ofChange sandboxRestrictsSpec)) sandboxRestrictsCard

/-- THE TIED CARD OF 'pipelinelaw53.SandboxHermetic'. -/
def sandboxHermeticCard : Claim7 := { stood := { row := sandboxHermeticRow, standIns := [], harness := (true, "84eb0109fe1232c9228ca898b6f29447e47b584c95f8e0a032f074844ceaf3d7"), looks := false }, kinds := [], alts := [], laidByText := true, laidKinds := [.data, .pinned], laidTests := true, laidLooks := .later }
def SandboxHermeticCardSaid : Prop := Claim7.holds Tryz.pinned (.plain (OpenSpec.ofChange sandboxHermeticSpec)) sandboxHermeticCard

/-- THE TIED CARD OF 'pipelinelaw53.SandboxInputs'. -/
def sandboxInputsCard : Claim7 := { stood := { row := sandboxInputsRow, standIns := [], harness := (true, "84eb0109fe1232c9228ca898b6f29447e47b584c95f8e0a032f074844ceaf3d7"), looks := false }, kinds := [], alts := [], laidByText := true, laidKinds := [.data, .pinned], laidTests := true, laidLooks := .later }
def SandboxInputsCardSaid : Prop := Claim7.holds Tryz.pinned (.plain (OpenSpec.ofChange sandboxInputsSpec)) sandboxInputsCard

/-- THE TIED CARD OF 'pipelinelaw53.SandboxCaches'. -/
def sandboxCachesCard : Claim7 := { stood := { row := sandboxCachesRow, standIns := [], harness := (true, "84eb0109fe1232c9228ca898b6f29447e47b584c95f8e0a032f074844ceaf3d7"), looks := false }, kinds := [], alts := [], laidByText := true, laidKinds := [.data, .pinned], laidTests := true, laidLooks := .later }
def SandboxCachesCardSaid : Prop := Claim7.holds Tryz.pinned (.plain (OpenSpec.ofChange sandboxCachesSpec)) sandboxCachesCard

/-- THE TIED CARD OF 'pipelinelaw53.SandboxLogs'. -/
def sandboxLogsCard : Claim7 := { stood := { row := sandboxLogsRow, standIns := [], harness := (true, "84eb0109fe1232c9228ca898b6f29447e47b584c95f8e0a032f074844ceaf3d7"), looks := false }, kinds := [], alts := [], laidByText := true, laidKinds := [.data, .pinned], laidTests := true, laidLooks := .later }
def SandboxLogsCardSaid : Prop := Claim7.holds Tryz.pinned (.plain (OpenSpec.ofChange sandboxLogsSpec)) sandboxLogsCard

/-- THE SECOND FORM's CARD OF 'pipelinelaw53.SandboxExecutes'. -/
def sandboxExecutesUptoCard : Claim7 := { stood := { row := sandboxExecutesUptoRow, standIns := [], harness := (true, "84eb0109fe1232c9228ca898b6f29447e47b584c95f8e0a032f074844ceaf3d7"), looks := false }, kinds := [], alts := [], laidByText := true, laidKinds := [.data, .pinned], laidTests := true, laidLooks := .later }
def SandboxExecutesUptoCardSaid : Prop := Claim7.holds Tryz.pinned (.plain (OpenSpec.upto sandboxExecutesSpec)) sandboxExecutesUptoCard

/-- THE SECOND FORM's CARD OF 'pipelinelaw53.SandboxRestricts'. -/
def sandboxRestrictsUptoCard : Claim7 := { stood := { row := sandboxRestrictsUptoRow, standIns := [], harness := (true, "84eb0109fe1232c9228ca898b6f29447e47b584c95f8e0a032f074844ceaf3d7"), looks := false }, kinds := [], alts := [], laidByText := true, laidKinds := [.data, .pinned], laidTests := true, laidLooks := .later }
def SandboxRestrictsUptoCardSaid : Prop := Claim7.holds Tryz.pinned (.plain (OpenSpec.upto sandboxRestrictsSpec)) sandboxRestrictsUptoCard

/-- THE SECOND FORM's CARD OF 'pipelinelaw53.SandboxHermetic'. -/
def sandboxHermeticUptoCard : Claim7 := { stood := { row := sandboxHermeticUptoRow, standIns := [], harness := (true, "84eb0109fe1232c9228ca898b6f29447e47b584c95f8e0a032f074844ceaf3d7"), looks := false }, kinds := [], alts := [], laidByText := true, laidKinds := [.data, .pinned], laidTests := true, laidLooks := .later }
def SandboxHermeticUptoCardSaid : Prop := Claim7.holds Tryz.pinned (.plain (OpenSpec.upto sandboxHermeticSpec)) sandboxHermeticUptoCard

/-- THE SECOND FORM's CARD OF 'pipelinelaw53.SandboxInputs'. -/
def sandboxInputsUptoCard : Claim7 := { stood := { row := sandboxInputsUptoRow, standIns := [], harness := (true, "84eb0109fe1232c9228ca898b6f29447e47b584c95f8e0a032f074844ceaf3d7"), looks := false }, kinds := [], alts := [], laidByText := true, laidKinds := [.data, .pinned], laidTests := true, laidLooks := .later }
def SandboxInputsUptoCardSaid : Prop := Claim7.holds Tryz.pinned (.plain (OpenSpec.upto sandboxInputsSpec)) sandboxInputsUptoCard

/-- THE SECOND FORM's CARD OF 'pipelinelaw53.SandboxCaches'. -/
def sandboxCachesUptoCard : Claim7 := { stood := { row := sandboxCachesUptoRow, standIns := [], harness := (true, "84eb0109fe1232c9228ca898b6f29447e47b584c95f8e0a032f074844ceaf3d7"), looks := false }, kinds := [], alts := [], laidByText := true, laidKinds := [.data, .pinned], laidTests := true, laidLooks := .later }
def SandboxCachesUptoCardSaid : Prop := Claim7.holds Tryz.pinned (.plain (OpenSpec.upto sandboxCachesSpec)) sandboxCachesUptoCard

/-- THE SECOND FORM's CARD OF 'pipelinelaw53.SandboxLogs'. -/
def sandboxLogsUptoCard : Claim7 := { stood := { row := sandboxLogsUptoRow, standIns := [], harness := (true, "84eb0109fe1232c9228ca898b6f29447e47b584c95f8e0a032f074844ceaf3d7"), looks := false }, kinds := [], alts := [], laidByText := true, laidKinds := [.data, .pinned], laidTests := true, laidLooks := .later }
def SandboxLogsUptoCardSaid : Prop := Claim7.holds Tryz.pinned (.plain (OpenSpec.upto sandboxLogsSpec)) sandboxLogsUptoCard
end Rows
end Go.Proofs.YtghahghbahcpfaaGreatDoor
