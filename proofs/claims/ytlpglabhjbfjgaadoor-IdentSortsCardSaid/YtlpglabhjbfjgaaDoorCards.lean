/-
  DERIVED. GIVEN WITH THE SEED: THE CARDS: each row of YtlpglabhjbfjgaaDoorRows.lean that lists a variable, with what it lists TIED to the program's text (the seventh form; the later family's looks); each row that meets fmt, with fmt's text TOLD by the authors' own Lean function (tested against real Go, not proved from fmt's source: count such statements apart). THE CARD IS WHAT COUNTS. Prove the row's statement (the work); the ties are given (YtlpglabhjbfjgaaDoorTie.lean); close each card by the builder's one call (the guide's Derived/Test/ToyasCard.lean, 'card_holds'). Laid BY PROGRAM, IN A SANDBOX (cutbox-door.mjs). By AI agents, Wed Nov 11 2026. No macro, syntax, notation, axiom, sorry.
-/
import Derived.Test.YtlpglabhjbfjgaaDoorRows
import GoSem.ClaimSeven
namespace Go.Proofs.YtlpglabhjbfjgaaDoor
namespace Rows

/-- THE TIED CARD OF 'pipelinelaw04.IdentNames'. -/
def identNamesCard : Claim7 := { stood := { row := identNamesRow, standIns := [], harness := (true, "31cec7a18eeba824771ff497078805fd545dee2e3b34aec8ccc6fa55758c2499"), looks := false }, kinds := [], alts := [], laidByText := true, laidKinds := [.data, .pinned], laidTests := true, laidLooks := .later }
def IdentNamesCardSaid : Prop := Claim7.holds Tryd.pinned (.plain (OpenSpec.ofChange identNamesSpec)) identNamesCard

/-- THE TIED CARD OF 'pipelinelaw04.IdentPaths'. -/
def identPathsCard : Claim7 := { stood := { row := identPathsRow, standIns := [], harness := (true, "31cec7a18eeba824771ff497078805fd545dee2e3b34aec8ccc6fa55758c2499"), looks := false }, kinds := [], alts := [], laidByText := true, laidKinds := [.data, .pinned], laidTests := true, laidLooks := .later }
def IdentPathsCardSaid : Prop := Claim7.holds Tryd.pinned (.plain (OpenSpec.ofChange identPathsSpec)) identPathsCard

/-- THE TIED CARD OF 'pipelinelaw04.IdentJoins'. -/
def identJoinsCard : Claim7 := { stood := { row := identJoinsRow, standIns := [], harness := (true, "31cec7a18eeba824771ff497078805fd545dee2e3b34aec8ccc6fa55758c2499"), looks := false }, kinds := [], alts := [], laidByText := true, laidKinds := [.data, .pinned], laidTests := true, laidLooks := .later }
def IdentJoinsCardSaid : Prop := Claim7.holds Tryd.pinned (.plain (OpenSpec.ofChange identJoinsSpec)) identJoinsCard

/-- THE TIED CARD OF 'pipelinelaw04.IdentParents'. -/
def identParentsCard : Claim7 := { stood := { row := identParentsRow, standIns := [], harness := (true, "31cec7a18eeba824771ff497078805fd545dee2e3b34aec8ccc6fa55758c2499"), looks := false }, kinds := [], alts := [], laidByText := true, laidKinds := [.data, .pinned], laidTests := true, laidLooks := .later }
def IdentParentsCardSaid : Prop := Claim7.holds Tryd.pinned (.plain (OpenSpec.ofChange identParentsSpec)) identParentsCard

/-- THE TIED CARD OF 'pipelinelaw04.IdentCompares'. -/
def identComparesCard : Claim7 := { stood := { row := identComparesRow, standIns := [], harness := (true, "31cec7a18eeba824771ff497078805fd545dee2e3b34aec8ccc6fa55758c2499"), looks := false }, kinds := [], alts := [], laidByText := true, laidKinds := [.data, .pinned], laidTests := true, laidLooks := .later }
def IdentComparesCardSaid : Prop := Claim7.holds Tryd.pinned (.plain (OpenSpec.ofChange identComparesSpec)) identComparesCard

/-- THE TIED CARD OF 'pipelinelaw04.IdentOrder'. -/
def identOrderCard : Claim7 := { stood := { row := identOrderRow, standIns := [], harness := (true, "31cec7a18eeba824771ff497078805fd545dee2e3b34aec8ccc6fa55758c2499"), looks := false }, kinds := [], alts := [], laidByText := true, laidKinds := [.data, .pinned], laidTests := true, laidLooks := .later }
def IdentOrderCardSaid : Prop := Claim7.holds Tryd.pinned (.plain (OpenSpec.ofChange identOrderSpec)) identOrderCard

/-- THE TIED CARD OF 'pipelinelaw04.IdentSorts'. -/
def identSortsCard : Claim7 := { stood := { row := identSortsRow, standIns := [], harness := (true, "31cec7a18eeba824771ff497078805fd545dee2e3b34aec8ccc6fa55758c2499"), looks := false }, kinds := [], alts := [], laidByText := true, laidKinds := [.data, .pinned], laidTests := true, laidLooks := .later }
def IdentSortsCardSaid : Prop := Claim7.holds Tryd.pinned (.plain (OpenSpec.ofChange identSortsSpec)) identSortsCard

/-- THE SECOND FORM's CARD OF 'pipelinelaw04.IdentNames'. -/
def identNamesUptoCard : Claim7 := { stood := { row := identNamesUptoRow, standIns := [], harness := (true, "31cec7a18eeba824771ff497078805fd545dee2e3b34aec8ccc6fa55758c2499"), looks := false }, kinds := [], alts := [], laidByText := true, laidKinds := [.data, .pinned], laidTests := true, laidLooks := .later }
def IdentNamesUptoCardSaid : Prop := Claim7.holds Tryd.pinned (.plain (OpenSpec.upto identNamesSpec)) identNamesUptoCard

/-- THE SECOND FORM's CARD OF 'pipelinelaw04.IdentPaths'. -/
def identPathsUptoCard : Claim7 := { stood := { row := identPathsUptoRow, standIns := [], harness := (true, "31cec7a18eeba824771ff497078805fd545dee2e3b34aec8ccc6fa55758c2499"), looks := false }, kinds := [], alts := [], laidByText := true, laidKinds := [.data, .pinned], laidTests := true, laidLooks := .later }
def IdentPathsUptoCardSaid : Prop := Claim7.holds Tryd.pinned (.plain (OpenSpec.upto identPathsSpec)) identPathsUptoCard

/-- THE SECOND FORM's CARD OF 'pipelinelaw04.IdentJoins'. -/
def identJoinsUptoCard : Claim7 := { stood := { row := identJoinsUptoRow, standIns := [], harness := (true, "31cec7a18eeba824771ff497078805fd545dee2e3b34aec8ccc6fa55758c2499"), looks := false }, kinds := [], alts := [], laidByText := true, laidKinds := [.data, .pinned], laidTests := true, laidLooks := .later }
def IdentJoinsUptoCardSaid : Prop := Claim7.holds Tryd.pinned (.plain (OpenSpec.upto identJoinsSpec)) identJoinsUptoCard

/-- THE SECOND FORM's CARD OF 'pipelinelaw04.IdentParents'. -/
def identParentsUptoCard : Claim7 := { stood := { row := identParentsUptoRow, standIns := [], harness := (true, "31cec7a18eeba824771ff497078805fd545dee2e3b34aec8ccc6fa55758c2499"), looks := false }, kinds := [], alts := [], laidByText := true, laidKinds := [.data, .pinned], laidTests := true, laidLooks := .later }
def IdentParentsUptoCardSaid : Prop := Claim7.holds Tryd.pinned (.plain (OpenSpec.upto identParentsSpec)) identParentsUptoCard

/-- THE SECOND FORM's CARD OF 'pipelinelaw04.IdentCompares'. -/
def identComparesUptoCard : Claim7 := { stood := { row := identComparesUptoRow, standIns := [], harness := (true, "31cec7a18eeba824771ff497078805fd545dee2e3b34aec8ccc6fa55758c2499"), looks := false }, kinds := [], alts := [], laidByText := true, laidKinds := [.data, .pinned], laidTests := true, laidLooks := .later }
def IdentComparesUptoCardSaid : Prop := Claim7.holds Tryd.pinned (.plain (OpenSpec.upto identComparesSpec)) identComparesUptoCard

/-- THE SECOND FORM's CARD OF 'pipelinelaw04.IdentOrder'. -/
def identOrderUptoCard : Claim7 := { stood := { row := identOrderUptoRow, standIns := [], harness := (true, "31cec7a18eeba824771ff497078805fd545dee2e3b34aec8ccc6fa55758c2499"), looks := false }, kinds := [], alts := [], laidByText := true, laidKinds := [.data, .pinned], laidTests := true, laidLooks := .later }
def IdentOrderUptoCardSaid : Prop := Claim7.holds Tryd.pinned (.plain (OpenSpec.upto identOrderSpec)) identOrderUptoCard

/-- THE SECOND FORM's CARD OF 'pipelinelaw04.IdentSorts'. -/
def identSortsUptoCard : Claim7 := { stood := { row := identSortsUptoRow, standIns := [], harness := (true, "31cec7a18eeba824771ff497078805fd545dee2e3b34aec8ccc6fa55758c2499"), looks := false }, kinds := [], alts := [], laidByText := true, laidKinds := [.data, .pinned], laidTests := true, laidLooks := .later }
def IdentSortsUptoCardSaid : Prop := Claim7.holds Tryd.pinned (.plain (OpenSpec.upto identSortsSpec)) identSortsUptoCard
end Rows
end Go.Proofs.YtlpglabhjbfjgaaDoor
