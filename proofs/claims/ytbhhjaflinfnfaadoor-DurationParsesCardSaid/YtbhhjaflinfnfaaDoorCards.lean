/-
  DERIVED. GIVEN WITH THE SEED: THE CARDS: each row of YtbhhjaflinfnfaaDoorRows.lean that lists a variable, with what it lists TIED to the program's text (the seventh form; the later family's looks); each row that meets fmt, with fmt's text TOLD by the authors' own Lean function (tested against real Go, not proved from fmt's source: count such statements apart). THE CARD IS WHAT COUNTS. Prove the row's statement (the work); the ties are given (YtbhhjaflinfnfaaDoorTie.lean); close each card by the builder's one call (the guide's Derived/Test/ToyasCard.lean, 'card_holds'). Laid BY PROGRAM, IN A SANDBOX (cutbox-door.mjs). By AI agents, Wed Nov 11 2026. No macro, syntax, notation, axiom, sorry.
-/
import Derived.Test.YtbhhjaflinfnfaaDoorRows
import GoSem.ClaimSeven
namespace Go.Proofs.YtbhhjaflinfnfaaDoor
namespace Rows

/-- THE TIED CARD OF 'pipelinelaw05.DurationParses'. -/
def durationParsesCard : Claim7 := { stood := { row := durationParsesRow, standIns := [], harness := (true, "185a0d1939528da1697a2e4adf3530587e4a51f4292958cc6ec4ef2e55d83dc4"), looks := false }, kinds := [], alts := [], laidByText := true, laidKinds := [.data, .data, .data, .data, .data, .pinned], laidTests := true, laidLooks := .later }
def DurationParsesCardSaid : Prop := Claim7.holds Tryd.pinned (.plain (OpenSpec.ofChange durationParsesSpec)) durationParsesCard

/-- THE TIED CARD OF 'pipelinelaw05.DurationShows'. -/
def durationShowsCard : Claim7 := { stood := { row := durationShowsRow, standIns := [], harness := (true, "185a0d1939528da1697a2e4adf3530587e4a51f4292958cc6ec4ef2e55d83dc4"), looks := false }, kinds := [], alts := [], laidByText := true, laidKinds := [.data, .data, .data, .data, .data, .pinned], laidTests := true, laidLooks := .later }
def DurationShowsCardSaid : Prop := Claim7.holds Tryd.pinned (.plain (OpenSpec.ofChange durationShowsSpec)) durationShowsCard

/-- THE TIED CARD OF 'pipelinelaw05.DurationAdds'. -/
def durationAddsCard : Claim7 := { stood := { row := durationAddsRow, standIns := [], harness := (true, "185a0d1939528da1697a2e4adf3530587e4a51f4292958cc6ec4ef2e55d83dc4"), looks := false }, kinds := [], alts := [], laidByText := true, laidKinds := [.data, .data, .data, .data, .data, .pinned], laidTests := true, laidLooks := .later }
def DurationAddsCardSaid : Prop := Claim7.holds Tryd.pinned (.plain (OpenSpec.ofChange durationAddsSpec)) durationAddsCard

/-- THE TIED CARD OF 'pipelinelaw05.DurationLater'. -/
def durationLaterCard : Claim7 := { stood := { row := durationLaterRow, standIns := [], harness := (true, "185a0d1939528da1697a2e4adf3530587e4a51f4292958cc6ec4ef2e55d83dc4"), looks := false }, kinds := [], alts := [], laidByText := true, laidKinds := [.data, .data, .data, .data, .data, .pinned], laidTests := true, laidLooks := .later }
def DurationLaterCardSaid : Prop := Claim7.holds Tryd.pinned (.plain (OpenSpec.ofChange durationLaterSpec)) durationLaterCard

/-- THE TIED CARD OF 'pipelinelaw05.DurationPartsAdd'. -/
def durationPartsAddCard : Claim7 := { stood := { row := durationPartsAddRow, standIns := [], harness := (true, "185a0d1939528da1697a2e4adf3530587e4a51f4292958cc6ec4ef2e55d83dc4"), looks := false }, kinds := [], alts := [], laidByText := true, laidKinds := [.data, .data, .data, .data, .data, .pinned], laidTests := true, laidLooks := .later }
def DurationPartsAddCardSaid : Prop := Claim7.holds Tryd.pinned (.plain (OpenSpec.ofChange durationPartsAddSpec)) durationPartsAddCard

/-- THE SECOND FORM's CARD OF 'pipelinelaw05.DurationParses'. -/
def durationParsesUptoCard : Claim7 := { stood := { row := durationParsesUptoRow, standIns := [], harness := (true, "185a0d1939528da1697a2e4adf3530587e4a51f4292958cc6ec4ef2e55d83dc4"), looks := false }, kinds := [], alts := [], laidByText := true, laidKinds := [.data, .data, .data, .data, .data, .pinned], laidTests := true, laidLooks := .later }
def DurationParsesUptoCardSaid : Prop := Claim7.holds Tryd.pinned (.plain (OpenSpec.upto durationParsesSpec)) durationParsesUptoCard

/-- THE SECOND FORM's CARD OF 'pipelinelaw05.DurationShows'. -/
def durationShowsUptoCard : Claim7 := { stood := { row := durationShowsUptoRow, standIns := [], harness := (true, "185a0d1939528da1697a2e4adf3530587e4a51f4292958cc6ec4ef2e55d83dc4"), looks := false }, kinds := [], alts := [], laidByText := true, laidKinds := [.data, .data, .data, .data, .data, .pinned], laidTests := true, laidLooks := .later }
def DurationShowsUptoCardSaid : Prop := Claim7.holds Tryd.pinned (.plain (OpenSpec.upto durationShowsSpec)) durationShowsUptoCard

/-- THE SECOND FORM's CARD OF 'pipelinelaw05.DurationAdds'. -/
def durationAddsUptoCard : Claim7 := { stood := { row := durationAddsUptoRow, standIns := [], harness := (true, "185a0d1939528da1697a2e4adf3530587e4a51f4292958cc6ec4ef2e55d83dc4"), looks := false }, kinds := [], alts := [], laidByText := true, laidKinds := [.data, .data, .data, .data, .data, .pinned], laidTests := true, laidLooks := .later }
def DurationAddsUptoCardSaid : Prop := Claim7.holds Tryd.pinned (.plain (OpenSpec.upto durationAddsSpec)) durationAddsUptoCard

/-- THE SECOND FORM's CARD OF 'pipelinelaw05.DurationLater'. -/
def durationLaterUptoCard : Claim7 := { stood := { row := durationLaterUptoRow, standIns := [], harness := (true, "185a0d1939528da1697a2e4adf3530587e4a51f4292958cc6ec4ef2e55d83dc4"), looks := false }, kinds := [], alts := [], laidByText := true, laidKinds := [.data, .data, .data, .data, .data, .pinned], laidTests := true, laidLooks := .later }
def DurationLaterUptoCardSaid : Prop := Claim7.holds Tryd.pinned (.plain (OpenSpec.upto durationLaterSpec)) durationLaterUptoCard

/-- THE SECOND FORM's CARD OF 'pipelinelaw05.DurationPartsAdd'. -/
def durationPartsAddUptoCard : Claim7 := { stood := { row := durationPartsAddUptoRow, standIns := [], harness := (true, "185a0d1939528da1697a2e4adf3530587e4a51f4292958cc6ec4ef2e55d83dc4"), looks := false }, kinds := [], alts := [], laidByText := true, laidKinds := [.data, .data, .data, .data, .data, .pinned], laidTests := true, laidLooks := .later }
def DurationPartsAddUptoCardSaid : Prop := Claim7.holds Tryd.pinned (.plain (OpenSpec.upto durationPartsAddSpec)) durationPartsAddUptoCard
end Rows
end Go.Proofs.YtbhhjaflinfnfaaDoor
