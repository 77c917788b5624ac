/-
  DERIVED. GIVEN WITH THE SEED: THE CARDS: each row of YtomecnncighkgaaGreatDoorRows.lean that lists a variable, with what it lists TIED to the program's text (the seventh form; the later family's looks); each row that meets fmt, with fmt's text TOLD by the authors' own Lean function (tested against real Go, not proved from fmt's source: count such statements apart). THE CARD IS WHAT COUNTS. Prove the row's statement (the work); the ties are given (YtomecnncighkgaaGreatDoorTie.lean); close each card by the builder's one call (the guide's Derived/Test/ToyasCard.lean, 'card_holds'). Laid BY PROGRAM, IN A SANDBOX (cutbox-door.mjs). By AI agents, Wed Nov 11 2026. No macro, syntax, notation, axiom, sorry.
-/
import Derived.Test.YtomecnncighkgaaGreatDoorRows
import GoSem.ClaimSeven
namespace Go.Proofs.YtomecnncighkgaaGreatDoor
namespace Rows

/-- THE TIED CARD OF 'pipelinelaw16.MatrixExpands'. -/
def matrixExpandsCard : Claim7 := { stood := { row := matrixExpandsRow, standIns := [], harness := (true, "48c6cce87cf513519c1d0a3ff7ff03d4236f9abe4f58bd0962bd14f9522604a1"), looks := false }, kinds := [], alts := [], laidByText := true, laidKinds := [.data, .data, .data, .data, .pinned], laidTests := true, laidLooks := .later }
def MatrixExpandsCardSaid : Prop := Claim7.holds Tryz.pinned (.plain (OpenSpec.ofChange matrixExpandsSpec)) matrixExpandsCard

/-- THE TIED CARD OF 'pipelinelaw16.MatrixMatches'. -/
def matrixMatchesCard : Claim7 := { stood := { row := matrixMatchesRow, standIns := [], harness := (true, "48c6cce87cf513519c1d0a3ff7ff03d4236f9abe4f58bd0962bd14f9522604a1"), looks := false }, kinds := [], alts := [], laidByText := true, laidKinds := [.data, .data, .data, .data, .pinned], laidTests := true, laidLooks := .later }
def MatrixMatchesCardSaid : Prop := Claim7.holds Tryz.pinned (.plain (OpenSpec.ofChange matrixMatchesSpec)) matrixMatchesCard

/-- THE TIED CARD OF 'pipelinelaw16.MatrixExact'. -/
def matrixExactCard : Claim7 := { stood := { row := matrixExactRow, standIns := [], harness := (true, "48c6cce87cf513519c1d0a3ff7ff03d4236f9abe4f58bd0962bd14f9522604a1"), looks := false }, kinds := [], alts := [], laidByText := true, laidKinds := [.data, .data, .data, .data, .pinned], laidTests := true, laidLooks := .later }
def MatrixExactCardSaid : Prop := Claim7.holds Tryz.pinned (.plain (OpenSpec.ofChange matrixExactSpec)) matrixExactCard

/-- THE TIED CARD OF 'pipelinelaw16.MatrixCounts'. -/
def matrixCountsCard : Claim7 := { stood := { row := matrixCountsRow, standIns := [], harness := (true, "48c6cce87cf513519c1d0a3ff7ff03d4236f9abe4f58bd0962bd14f9522604a1"), looks := false }, kinds := [], alts := [], laidByText := true, laidKinds := [.data, .data, .data, .data, .pinned], laidTests := true, laidLooks := .later }
def MatrixCountsCardSaid : Prop := Claim7.holds Tryz.pinned (.plain (OpenSpec.ofChange matrixCountsSpec)) matrixCountsCard

/-- THE TIED CARD OF 'pipelinelaw16.MatrixOrder'. -/
def matrixOrderCard : Claim7 := { stood := { row := matrixOrderRow, standIns := [], harness := (true, "48c6cce87cf513519c1d0a3ff7ff03d4236f9abe4f58bd0962bd14f9522604a1"), looks := false }, kinds := [], alts := [], laidByText := true, laidKinds := [.data, .data, .data, .data, .pinned], laidTests := true, laidLooks := .later }
def MatrixOrderCardSaid : Prop := Claim7.holds Tryz.pinned (.plain (OpenSpec.ofChange matrixOrderSpec)) matrixOrderCard

/-- THE SECOND FORM's CARD OF 'pipelinelaw16.MatrixExpands'. -/
def matrixExpandsUptoCard : Claim7 := { stood := { row := matrixExpandsUptoRow, standIns := [], harness := (true, "48c6cce87cf513519c1d0a3ff7ff03d4236f9abe4f58bd0962bd14f9522604a1"), looks := false }, kinds := [], alts := [], laidByText := true, laidKinds := [.data, .data, .data, .data, .pinned], laidTests := true, laidLooks := .later }
def MatrixExpandsUptoCardSaid : Prop := Claim7.holds Tryz.pinned (.plain (OpenSpec.upto matrixExpandsSpec)) matrixExpandsUptoCard

/-- THE SECOND FORM's CARD OF 'pipelinelaw16.MatrixMatches'. -/
def matrixMatchesUptoCard : Claim7 := { stood := { row := matrixMatchesUptoRow, standIns := [], harness := (true, "48c6cce87cf513519c1d0a3ff7ff03d4236f9abe4f58bd0962bd14f9522604a1"), looks := false }, kinds := [], alts := [], laidByText := true, laidKinds := [.data, .data, .data, .data, .pinned], laidTests := true, laidLooks := .later }
def MatrixMatchesUptoCardSaid : Prop := Claim7.holds Tryz.pinned (.plain (OpenSpec.upto matrixMatchesSpec)) matrixMatchesUptoCard

/-- THE SECOND FORM's CARD OF 'pipelinelaw16.MatrixExact'. -/
def matrixExactUptoCard : Claim7 := { stood := { row := matrixExactUptoRow, standIns := [], harness := (true, "48c6cce87cf513519c1d0a3ff7ff03d4236f9abe4f58bd0962bd14f9522604a1"), looks := false }, kinds := [], alts := [], laidByText := true, laidKinds := [.data, .data, .data, .data, .pinned], laidTests := true, laidLooks := .later }
def MatrixExactUptoCardSaid : Prop := Claim7.holds Tryz.pinned (.plain (OpenSpec.upto matrixExactSpec)) matrixExactUptoCard

/-- THE SECOND FORM's CARD OF 'pipelinelaw16.MatrixCounts'. -/
def matrixCountsUptoCard : Claim7 := { stood := { row := matrixCountsUptoRow, standIns := [], harness := (true, "48c6cce87cf513519c1d0a3ff7ff03d4236f9abe4f58bd0962bd14f9522604a1"), looks := false }, kinds := [], alts := [], laidByText := true, laidKinds := [.data, .data, .data, .data, .pinned], laidTests := true, laidLooks := .later }
def MatrixCountsUptoCardSaid : Prop := Claim7.holds Tryz.pinned (.plain (OpenSpec.upto matrixCountsSpec)) matrixCountsUptoCard

/-- THE SECOND FORM's CARD OF 'pipelinelaw16.MatrixOrder'. -/
def matrixOrderUptoCard : Claim7 := { stood := { row := matrixOrderUptoRow, standIns := [], harness := (true, "48c6cce87cf513519c1d0a3ff7ff03d4236f9abe4f58bd0962bd14f9522604a1"), looks := false }, kinds := [], alts := [], laidByText := true, laidKinds := [.data, .data, .data, .data, .pinned], laidTests := true, laidLooks := .later }
def MatrixOrderUptoCardSaid : Prop := Claim7.holds Tryz.pinned (.plain (OpenSpec.upto matrixOrderSpec)) matrixOrderUptoCard
end Rows
end Go.Proofs.YtomecnncighkgaaGreatDoor
