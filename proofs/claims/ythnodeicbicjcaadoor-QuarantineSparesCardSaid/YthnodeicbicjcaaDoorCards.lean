/-
  DERIVED. GIVEN WITH THE SEED: THE CARDS: each row of YthnodeicbicjcaaDoorRows.lean that lists a variable, with what it lists TIED to the program's text (the seventh form; the later family's looks); each row that meets fmt, with fmt's text TOLD by the authors' own Lean function (tested against real Go, not proved from fmt's source: count such statements apart). THE CARD IS WHAT COUNTS. Prove the row's statement (the work); the ties are given (YthnodeicbicjcaaDoorTie.lean); close each card by the builder's one call (the guide's Derived/Test/ToyasCard.lean, 'card_holds'). Laid BY PROGRAM, IN A SANDBOX (cutbox-door.mjs). By AI agents, Wed Nov 11 2026. No macro, syntax, notation, axiom, sorry.
-/
import Derived.Test.YthnodeicbicjcaaDoorRows
import GoSem.ClaimSeven
namespace Go.Proofs.YthnodeicbicjcaaDoor
namespace Rows

/-- THE TIED CARD OF 'pipelinelaw40.QuarantineAdds'. -/
def quarantineAddsCard : Claim7 := { stood := { row := quarantineAddsRow, standIns := [], harness := (true, "9ed7c0f4cf5643227b441191f0ecd8bc469284a0620c476c8ee6f3114557a1c5"), looks := false }, kinds := [], alts := [], laidByText := true, laidKinds := [.data, .pinned], laidTests := true, laidLooks := .later }
def QuarantineAddsCardSaid : Prop := Claim7.holds Tryd.pinned (.plain (OpenSpec.ofChange quarantineAddsSpec)) quarantineAddsCard

/-- THE TIED CARD OF 'pipelinelaw40.QuarantineActive'. -/
def quarantineActiveCard : Claim7 := { stood := { row := quarantineActiveRow, standIns := [], harness := (true, "9ed7c0f4cf5643227b441191f0ecd8bc469284a0620c476c8ee6f3114557a1c5"), looks := false }, kinds := [], alts := [], laidByText := true, laidKinds := [.data, .pinned], laidTests := true, laidLooks := .later }
def QuarantineActiveCardSaid : Prop := Claim7.holds Tryd.pinned (.plain (OpenSpec.ofChange quarantineActiveSpec)) quarantineActiveCard

/-- THE TIED CARD OF 'pipelinelaw40.QuarantineApplies'. -/
def quarantineAppliesCard : Claim7 := { stood := { row := quarantineAppliesRow, standIns := [], harness := (true, "9ed7c0f4cf5643227b441191f0ecd8bc469284a0620c476c8ee6f3114557a1c5"), looks := false }, kinds := [], alts := [], laidByText := true, laidKinds := [.data, .pinned], laidTests := true, laidLooks := .later }
def QuarantineAppliesCardSaid : Prop := Claim7.holds Tryd.pinned (.plain (OpenSpec.ofChange quarantineAppliesSpec)) quarantineAppliesCard

/-- THE TIED CARD OF 'pipelinelaw40.QuarantineUpdates'. -/
def quarantineUpdatesCard : Claim7 := { stood := { row := quarantineUpdatesRow, standIns := [], harness := (true, "9ed7c0f4cf5643227b441191f0ecd8bc469284a0620c476c8ee6f3114557a1c5"), looks := false }, kinds := [], alts := [], laidByText := true, laidKinds := [.data, .pinned], laidTests := true, laidLooks := .later }
def QuarantineUpdatesCardSaid : Prop := Claim7.holds Tryd.pinned (.plain (OpenSpec.ofChange quarantineUpdatesSpec)) quarantineUpdatesCard

/-- THE TIED CARD OF 'pipelinelaw40.QuarantineEnds'. -/
def quarantineEndsCard : Claim7 := { stood := { row := quarantineEndsRow, standIns := [], harness := (true, "9ed7c0f4cf5643227b441191f0ecd8bc469284a0620c476c8ee6f3114557a1c5"), looks := false }, kinds := [], alts := [], laidByText := true, laidKinds := [.data, .pinned], laidTests := true, laidLooks := .later }
def QuarantineEndsCardSaid : Prop := Claim7.holds Tryd.pinned (.plain (OpenSpec.ofChange quarantineEndsSpec)) quarantineEndsCard

/-- THE TIED CARD OF 'pipelinelaw40.QuarantineSpares'. -/
def quarantineSparesCard : Claim7 := { stood := { row := quarantineSparesRow, standIns := [], harness := (true, "9ed7c0f4cf5643227b441191f0ecd8bc469284a0620c476c8ee6f3114557a1c5"), looks := false }, kinds := [], alts := [], laidByText := true, laidKinds := [.data, .pinned], laidTests := true, laidLooks := .later }
def QuarantineSparesCardSaid : Prop := Claim7.holds Tryd.pinned (.plain (OpenSpec.ofChange quarantineSparesSpec)) quarantineSparesCard

/-- THE SECOND FORM's CARD OF 'pipelinelaw40.QuarantineAdds'. -/
def quarantineAddsUptoCard : Claim7 := { stood := { row := quarantineAddsUptoRow, standIns := [], harness := (true, "9ed7c0f4cf5643227b441191f0ecd8bc469284a0620c476c8ee6f3114557a1c5"), looks := false }, kinds := [], alts := [], laidByText := true, laidKinds := [.data, .pinned], laidTests := true, laidLooks := .later }
def QuarantineAddsUptoCardSaid : Prop := Claim7.holds Tryd.pinned (.plain (OpenSpec.upto quarantineAddsSpec)) quarantineAddsUptoCard

/-- THE SECOND FORM's CARD OF 'pipelinelaw40.QuarantineActive'. -/
def quarantineActiveUptoCard : Claim7 := { stood := { row := quarantineActiveUptoRow, standIns := [], harness := (true, "9ed7c0f4cf5643227b441191f0ecd8bc469284a0620c476c8ee6f3114557a1c5"), looks := false }, kinds := [], alts := [], laidByText := true, laidKinds := [.data, .pinned], laidTests := true, laidLooks := .later }
def QuarantineActiveUptoCardSaid : Prop := Claim7.holds Tryd.pinned (.plain (OpenSpec.upto quarantineActiveSpec)) quarantineActiveUptoCard

/-- THE SECOND FORM's CARD OF 'pipelinelaw40.QuarantineApplies'. -/
def quarantineAppliesUptoCard : Claim7 := { stood := { row := quarantineAppliesUptoRow, standIns := [], harness := (true, "9ed7c0f4cf5643227b441191f0ecd8bc469284a0620c476c8ee6f3114557a1c5"), looks := false }, kinds := [], alts := [], laidByText := true, laidKinds := [.data, .pinned], laidTests := true, laidLooks := .later }
def QuarantineAppliesUptoCardSaid : Prop := Claim7.holds Tryd.pinned (.plain (OpenSpec.upto quarantineAppliesSpec)) quarantineAppliesUptoCard

/-- THE SECOND FORM's CARD OF 'pipelinelaw40.QuarantineUpdates'. -/
def quarantineUpdatesUptoCard : Claim7 := { stood := { row := quarantineUpdatesUptoRow, standIns := [], harness := (true, "9ed7c0f4cf5643227b441191f0ecd8bc469284a0620c476c8ee6f3114557a1c5"), looks := false }, kinds := [], alts := [], laidByText := true, laidKinds := [.data, .pinned], laidTests := true, laidLooks := .later }
def QuarantineUpdatesUptoCardSaid : Prop := Claim7.holds Tryd.pinned (.plain (OpenSpec.upto quarantineUpdatesSpec)) quarantineUpdatesUptoCard

/-- THE SECOND FORM's CARD OF 'pipelinelaw40.QuarantineEnds'. -/
def quarantineEndsUptoCard : Claim7 := { stood := { row := quarantineEndsUptoRow, standIns := [], harness := (true, "9ed7c0f4cf5643227b441191f0ecd8bc469284a0620c476c8ee6f3114557a1c5"), looks := false }, kinds := [], alts := [], laidByText := true, laidKinds := [.data, .pinned], laidTests := true, laidLooks := .later }
def QuarantineEndsUptoCardSaid : Prop := Claim7.holds Tryd.pinned (.plain (OpenSpec.upto quarantineEndsSpec)) quarantineEndsUptoCard

/-- THE SECOND FORM's CARD OF 'pipelinelaw40.QuarantineSpares'. -/
def quarantineSparesUptoCard : Claim7 := { stood := { row := quarantineSparesUptoRow, standIns := [], harness := (true, "9ed7c0f4cf5643227b441191f0ecd8bc469284a0620c476c8ee6f3114557a1c5"), looks := false }, kinds := [], alts := [], laidByText := true, laidKinds := [.data, .pinned], laidTests := true, laidLooks := .later }
def QuarantineSparesUptoCardSaid : Prop := Claim7.holds Tryd.pinned (.plain (OpenSpec.upto quarantineSparesSpec)) quarantineSparesUptoCard
end Rows
end Go.Proofs.YthnodeicbicjcaaDoor
