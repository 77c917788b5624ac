/-
  DERIVED. GIVEN WITH THE SEED: THE CARDS: each row of YtfegmmafcopbpaaGreatDoorRows.lean that lists a variable, with what it lists TIED to the program's text (the seventh form; the later family's looks); each row that meets fmt, with fmt's text TOLD by the authors' own Lean function (tested against real Go, not proved from fmt's source: count such statements apart). THE CARD IS WHAT COUNTS. Prove the row's statement (the work); the ties are given (YtfegmmafcopbpaaGreatDoorTie.lean); close each card by the builder's one call (the guide's Derived/Test/ToyasCard.lean, 'card_holds'). Laid BY PROGRAM, IN A SANDBOX (cutbox-door.mjs). By AI agents, Wed Nov 11 2026. No macro, syntax, notation, axiom, sorry.
-/
import Derived.Test.YtfegmmafcopbpaaGreatDoorRows
import GoSem.ClaimSeven
namespace Go.Proofs.YtfegmmafcopbpaaGreatDoor
namespace Rows

/-- THE TIED CARD OF 'pipelinelaw18.GraphOrders'. -/
def graphOrdersCard : Claim7 := { stood := { row := graphOrdersRow, standIns := [], harness := (true, "2c1a586aace1b77e7e697d86fd46f6b6b890dbccfc3985dc6706f15c375f8a0d"), looks := false }, kinds := [], alts := [], laidByText := true, laidKinds := [.data, .pinned], laidTests := true, laidLooks := .later }
def GraphOrdersCardSaid : Prop := Claim7.holds Tryz.pinned (.plain (OpenSpec.ofChange graphOrdersSpec)) graphOrdersCard

/-- THE TIED CARD OF 'pipelinelaw18.GraphCycles'. -/
def graphCyclesCard : Claim7 := { stood := { row := graphCyclesRow, standIns := [], harness := (true, "2c1a586aace1b77e7e697d86fd46f6b6b890dbccfc3985dc6706f15c375f8a0d"), looks := false }, kinds := [], alts := [], laidByText := true, laidKinds := [.data, .pinned], laidTests := true, laidLooks := .later }
def GraphCyclesCardSaid : Prop := Claim7.holds Tryz.pinned (.plain (OpenSpec.ofChange graphCyclesSpec)) graphCyclesCard

/-- THE TIED CARD OF 'pipelinelaw18.GraphReaches'. -/
def graphReachesCard : Claim7 := { stood := { row := graphReachesRow, standIns := [], harness := (true, "2c1a586aace1b77e7e697d86fd46f6b6b890dbccfc3985dc6706f15c375f8a0d"), looks := false }, kinds := [], alts := [], laidByText := true, laidKinds := [.data, .pinned], laidTests := true, laidLooks := .later }
def GraphReachesCardSaid : Prop := Claim7.holds Tryz.pinned (.plain (OpenSpec.ofChange graphReachesSpec)) graphReachesCard

/-- THE TIED CARD OF 'pipelinelaw18.GraphCritical'. -/
def graphCriticalCard : Claim7 := { stood := { row := graphCriticalRow, standIns := [], harness := (true, "2c1a586aace1b77e7e697d86fd46f6b6b890dbccfc3985dc6706f15c375f8a0d"), looks := false }, kinds := [], alts := [], laidByText := true, laidKinds := [.data, .pinned], laidTests := true, laidLooks := .later }
def GraphCriticalCardSaid : Prop := Claim7.holds Tryz.pinned (.plain (OpenSpec.ofChange graphCriticalSpec)) graphCriticalCard

/-- THE TIED CARD OF 'pipelinelaw18.GraphOrder'. -/
def graphOrderCard : Claim7 := { stood := { row := graphOrderRow, standIns := [], harness := (true, "2c1a586aace1b77e7e697d86fd46f6b6b890dbccfc3985dc6706f15c375f8a0d"), looks := false }, kinds := [], alts := [], laidByText := true, laidKinds := [.data, .pinned], laidTests := true, laidLooks := .later }
def GraphOrderCardSaid : Prop := Claim7.holds Tryz.pinned (.plain (OpenSpec.ofChange graphOrderSpec)) graphOrderCard

/-- THE TIED CARD OF 'pipelinelaw18.GraphDual'. -/
def graphDualCard : Claim7 := { stood := { row := graphDualRow, standIns := [], harness := (true, "2c1a586aace1b77e7e697d86fd46f6b6b890dbccfc3985dc6706f15c375f8a0d"), looks := false }, kinds := [], alts := [], laidByText := true, laidKinds := [.data, .pinned], laidTests := true, laidLooks := .later }
def GraphDualCardSaid : Prop := Claim7.holds Tryz.pinned (.plain (OpenSpec.ofChange graphDualSpec)) graphDualCard

/-- THE TIED CARD OF 'pipelinelaw18.GraphProceeds'. -/
def graphProceedsCard : Claim7 := { stood := { row := graphProceedsRow, standIns := [], harness := (true, "2c1a586aace1b77e7e697d86fd46f6b6b890dbccfc3985dc6706f15c375f8a0d"), looks := false }, kinds := [], alts := [], laidByText := true, laidKinds := [.data, .pinned], laidTests := true, laidLooks := .later }
def GraphProceedsCardSaid : Prop := Claim7.holds Tryz.pinned (.plain (OpenSpec.ofChange graphProceedsSpec)) graphProceedsCard

/-- THE TIED CARD OF 'pipelinelaw18.GraphPaths'. -/
def graphPathsCard : Claim7 := { stood := { row := graphPathsRow, standIns := [], harness := (true, "2c1a586aace1b77e7e697d86fd46f6b6b890dbccfc3985dc6706f15c375f8a0d"), looks := false }, kinds := [], alts := [], laidByText := true, laidKinds := [.data, .pinned], laidTests := true, laidLooks := .later }
def GraphPathsCardSaid : Prop := Claim7.holds Tryz.pinned (.plain (OpenSpec.ofChange graphPathsSpec)) graphPathsCard

/-- THE SECOND FORM's CARD OF 'pipelinelaw18.GraphOrders'. -/
def graphOrdersUptoCard : Claim7 := { stood := { row := graphOrdersUptoRow, standIns := [], harness := (true, "2c1a586aace1b77e7e697d86fd46f6b6b890dbccfc3985dc6706f15c375f8a0d"), looks := false }, kinds := [], alts := [], laidByText := true, laidKinds := [.data, .pinned], laidTests := true, laidLooks := .later }
def GraphOrdersUptoCardSaid : Prop := Claim7.holds Tryz.pinned (.plain (OpenSpec.upto graphOrdersSpec)) graphOrdersUptoCard

/-- THE SECOND FORM's CARD OF 'pipelinelaw18.GraphCycles'. -/
def graphCyclesUptoCard : Claim7 := { stood := { row := graphCyclesUptoRow, standIns := [], harness := (true, "2c1a586aace1b77e7e697d86fd46f6b6b890dbccfc3985dc6706f15c375f8a0d"), looks := false }, kinds := [], alts := [], laidByText := true, laidKinds := [.data, .pinned], laidTests := true, laidLooks := .later }
def GraphCyclesUptoCardSaid : Prop := Claim7.holds Tryz.pinned (.plain (OpenSpec.upto graphCyclesSpec)) graphCyclesUptoCard

/-- THE SECOND FORM's CARD OF 'pipelinelaw18.GraphReaches'. -/
def graphReachesUptoCard : Claim7 := { stood := { row := graphReachesUptoRow, standIns := [], harness := (true, "2c1a586aace1b77e7e697d86fd46f6b6b890dbccfc3985dc6706f15c375f8a0d"), looks := false }, kinds := [], alts := [], laidByText := true, laidKinds := [.data, .pinned], laidTests := true, laidLooks := .later }
def GraphReachesUptoCardSaid : Prop := Claim7.holds Tryz.pinned (.plain (OpenSpec.upto graphReachesSpec)) graphReachesUptoCard

/-- THE SECOND FORM's CARD OF 'pipelinelaw18.GraphCritical'. -/
def graphCriticalUptoCard : Claim7 := { stood := { row := graphCriticalUptoRow, standIns := [], harness := (true, "2c1a586aace1b77e7e697d86fd46f6b6b890dbccfc3985dc6706f15c375f8a0d"), looks := false }, kinds := [], alts := [], laidByText := true, laidKinds := [.data, .pinned], laidTests := true, laidLooks := .later }
def GraphCriticalUptoCardSaid : Prop := Claim7.holds Tryz.pinned (.plain (OpenSpec.upto graphCriticalSpec)) graphCriticalUptoCard

/-- THE SECOND FORM's CARD OF 'pipelinelaw18.GraphOrder'. -/
def graphOrderUptoCard : Claim7 := { stood := { row := graphOrderUptoRow, standIns := [], harness := (true, "2c1a586aace1b77e7e697d86fd46f6b6b890dbccfc3985dc6706f15c375f8a0d"), looks := false }, kinds := [], alts := [], laidByText := true, laidKinds := [.data, .pinned], laidTests := true, laidLooks := .later }
def GraphOrderUptoCardSaid : Prop := Claim7.holds Tryz.pinned (.plain (OpenSpec.upto graphOrderSpec)) graphOrderUptoCard

/-- THE SECOND FORM's CARD OF 'pipelinelaw18.GraphDual'. -/
def graphDualUptoCard : Claim7 := { stood := { row := graphDualUptoRow, standIns := [], harness := (true, "2c1a586aace1b77e7e697d86fd46f6b6b890dbccfc3985dc6706f15c375f8a0d"), looks := false }, kinds := [], alts := [], laidByText := true, laidKinds := [.data, .pinned], laidTests := true, laidLooks := .later }
def GraphDualUptoCardSaid : Prop := Claim7.holds Tryz.pinned (.plain (OpenSpec.upto graphDualSpec)) graphDualUptoCard

/-- THE SECOND FORM's CARD OF 'pipelinelaw18.GraphProceeds'. -/
def graphProceedsUptoCard : Claim7 := { stood := { row := graphProceedsUptoRow, standIns := [], harness := (true, "2c1a586aace1b77e7e697d86fd46f6b6b890dbccfc3985dc6706f15c375f8a0d"), looks := false }, kinds := [], alts := [], laidByText := true, laidKinds := [.data, .pinned], laidTests := true, laidLooks := .later }
def GraphProceedsUptoCardSaid : Prop := Claim7.holds Tryz.pinned (.plain (OpenSpec.upto graphProceedsSpec)) graphProceedsUptoCard

/-- THE SECOND FORM's CARD OF 'pipelinelaw18.GraphPaths'. -/
def graphPathsUptoCard : Claim7 := { stood := { row := graphPathsUptoRow, standIns := [], harness := (true, "2c1a586aace1b77e7e697d86fd46f6b6b890dbccfc3985dc6706f15c375f8a0d"), looks := false }, kinds := [], alts := [], laidByText := true, laidKinds := [.data, .pinned], laidTests := true, laidLooks := .later }
def GraphPathsUptoCardSaid : Prop := Claim7.holds Tryz.pinned (.plain (OpenSpec.upto graphPathsSpec)) graphPathsUptoCard
end Rows
end Go.Proofs.YtfegmmafcopbpaaGreatDoor
