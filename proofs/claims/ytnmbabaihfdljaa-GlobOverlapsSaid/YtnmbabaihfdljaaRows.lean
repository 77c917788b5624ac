/-
  No cell of these rows narrows 'for every input' (looked for: loops, veiled, ifaces, maps, wideKeys, modest, calm, conditions, laid).
  DERIVED. THE GIVEN ROWS OF THIS SEAT. 7 by the template 'for every input the law returns true; each argument reads behind the call as it read before'; 0 by the template 'total and deterministic' (their statements: YtnmbabaihfdljaaTotals.lean).
  GIVEN WITH THE SEED: the statements are not yours to turn. If you find one false, say at which input.
  Laid BY PROGRAM, IN A SANDBOX (cutbox-rows.mjs): the forced cells as the released guide's own fill.sh prints them over the translation 529a33a70d5a9a39… (all of the seat's roots in one cut). By AI agents, Wed Nov 11 2026. No macro, syntax, notation, axiom, sorry.
-/
import Derived.Test.YtnmbabaihfdljaaChecked
import GoSem.Claim
import GoSem.ClaimJoined
import GoSem.ClaimMapViews
import Derived.JoinedTies
import Derived.KernelRfl
namespace Go.Proofs.Ytnmbabaihfdljaa
/- THE CELL 'sum', in the pinned program and in every row, IS THE sha256 OF THE DUMP (.gsa) THAT YtnmbabaihfdljaaProg.lean LOADS. Nothing in Lean hashes anything: it is a label: what it is worth is what the hold of that sum in a sandbox is worth. -/
noncomputable def Try.pinned : Pinned := { name := "ytnmbabaihfdljaa", sum := "529a33a70d5a9a39b9ce9c2c76e63f73a192a80996ca5ee8ada91175a79c8180", checked := Try.checked }
namespace Rows
def none {H : Type} : Left H := { results := [], args := [] }

/-- 'pipelinelaw06.GlobValid': WHATEVER THE INPUT: true; the input reads as it did. -/
def globValidSpec : ChangeSpec := { name := "globValid", fn := fun _ => fun
  | [d] => { results := [.lit (.bool true)], args := [d] }
  | _ => none }
def globValidRow : OpenClaim := { program := "ytnmbabaihfdljaa", sum := "529a33a70d5a9a39b9ce9c2c76e63f73a192a80996ca5ee8ada91175a79c8180", func := "pipeline/pipelinelaw06.GlobValid", spec := "globValid", unfollowed := true, recurses := true, plainKeys := false, apart := false }
def GlobValidSaid : Prop := globValidRow.holds Try.pinned (OpenSpec.ofChange globValidSpec)

/-- ITS FALSE NEIGHBOUR: 'it returns false'. Refute it at one input. -/
def globValidWrong : ChangeSpec := { name := "globValid", fn := fun _ => fun
  | [d] => { results := [.lit (.bool false)], args := [d] }
  | _ => none }
def GlobValidWrongFalsely : Prop := globValidRow.holds Try.pinned (OpenSpec.ofChange globValidWrong)

/-- 'pipelinelaw06.GlobMatches': WHATEVER THE INPUT: true; the input reads as it did. -/
def globMatchesSpec : ChangeSpec := { name := "globMatches", fn := fun _ => fun
  | [d1, d2] => { results := [.lit (.bool true)], args := [d1, d2] }
  | _ => none }
def globMatchesRow : OpenClaim := { program := "ytnmbabaihfdljaa", sum := "529a33a70d5a9a39b9ce9c2c76e63f73a192a80996ca5ee8ada91175a79c8180", func := "pipeline/pipelinelaw06.GlobMatches", spec := "globMatches", unfollowed := true, recurses := true, plainKeys := false, apart := false }
def GlobMatchesSaid : Prop := globMatchesRow.holds Try.pinned (OpenSpec.ofChange globMatchesSpec)

/-- ITS FALSE NEIGHBOUR: 'it returns false'. Refute it at one input. -/
def globMatchesWrong : ChangeSpec := { name := "globMatches", fn := fun _ => fun
  | [d1, d2] => { results := [.lit (.bool false)], args := [d1, d2] }
  | _ => none }
def GlobMatchesWrongFalsely : Prop := globMatchesRow.holds Try.pinned (OpenSpec.ofChange globMatchesWrong)

/-- 'pipelinelaw06.GlobLists': WHATEVER THE INPUT: true; the input reads as it did. -/
def globListsSpec : ChangeSpec := { name := "globLists", fn := fun _ => fun
  | [d1, d2] => { results := [.lit (.bool true)], args := [d1, d2] }
  | _ => none }
def globListsRow : OpenClaim := { program := "ytnmbabaihfdljaa", sum := "529a33a70d5a9a39b9ce9c2c76e63f73a192a80996ca5ee8ada91175a79c8180", func := "pipeline/pipelinelaw06.GlobLists", spec := "globLists", unfollowed := true, recurses := true, plainKeys := false, apart := false }
def GlobListsSaid : Prop := globListsRow.holds Try.pinned (OpenSpec.ofChange globListsSpec)

/-- ITS FALSE NEIGHBOUR: 'it returns false'. Refute it at one input. -/
def globListsWrong : ChangeSpec := { name := "globLists", fn := fun _ => fun
  | [d1, d2] => { results := [.lit (.bool false)], args := [d1, d2] }
  | _ => none }
def GlobListsWrongFalsely : Prop := globListsRow.holds Try.pinned (OpenSpec.ofChange globListsWrong)

/-- 'pipelinelaw06.GlobPrefixes': WHATEVER THE INPUT: true; the input reads as it did. -/
def globPrefixesSpec : ChangeSpec := { name := "globPrefixes", fn := fun _ => fun
  | [d1, d2] => { results := [.lit (.bool true)], args := [d1, d2] }
  | _ => none }
def globPrefixesRow : OpenClaim := { program := "ytnmbabaihfdljaa", sum := "529a33a70d5a9a39b9ce9c2c76e63f73a192a80996ca5ee8ada91175a79c8180", func := "pipeline/pipelinelaw06.GlobPrefixes", spec := "globPrefixes", unfollowed := true, recurses := true, plainKeys := false, apart := false }
def GlobPrefixesSaid : Prop := globPrefixesRow.holds Try.pinned (OpenSpec.ofChange globPrefixesSpec)

/-- ITS FALSE NEIGHBOUR: 'it returns false'. Refute it at one input. -/
def globPrefixesWrong : ChangeSpec := { name := "globPrefixes", fn := fun _ => fun
  | [d1, d2] => { results := [.lit (.bool false)], args := [d1, d2] }
  | _ => none }
def GlobPrefixesWrongFalsely : Prop := globPrefixesRow.holds Try.pinned (OpenSpec.ofChange globPrefixesWrong)

/-- 'pipelinelaw06.GlobEscapes': WHATEVER THE INPUT: true; the input reads as it did. -/
def globEscapesSpec : ChangeSpec := { name := "globEscapes", fn := fun _ => fun
  | [d1, d2] => { results := [.lit (.bool true)], args := [d1, d2] }
  | _ => none }
def globEscapesRow : OpenClaim := { program := "ytnmbabaihfdljaa", sum := "529a33a70d5a9a39b9ce9c2c76e63f73a192a80996ca5ee8ada91175a79c8180", func := "pipeline/pipelinelaw06.GlobEscapes", spec := "globEscapes", unfollowed := true, recurses := true, plainKeys := false, apart := false }
def GlobEscapesSaid : Prop := globEscapesRow.holds Try.pinned (OpenSpec.ofChange globEscapesSpec)

/-- ITS FALSE NEIGHBOUR: 'it returns false'. Refute it at one input. -/
def globEscapesWrong : ChangeSpec := { name := "globEscapes", fn := fun _ => fun
  | [d1, d2] => { results := [.lit (.bool false)], args := [d1, d2] }
  | _ => none }
def GlobEscapesWrongFalsely : Prop := globEscapesRow.holds Try.pinned (OpenSpec.ofChange globEscapesWrong)

/-- 'pipelinelaw06.GlobOverlaps': WHATEVER THE INPUT: true; the input reads as it did. -/
def globOverlapsSpec : ChangeSpec := { name := "globOverlaps", fn := fun _ => fun
  | [d1, d2, d3] => { results := [.lit (.bool true)], args := [d1, d2, d3] }
  | _ => none }
def globOverlapsRow : OpenClaim := { program := "ytnmbabaihfdljaa", sum := "529a33a70d5a9a39b9ce9c2c76e63f73a192a80996ca5ee8ada91175a79c8180", func := "pipeline/pipelinelaw06.GlobOverlaps", spec := "globOverlaps", unfollowed := true, recurses := true, plainKeys := false, apart := false }
def GlobOverlapsSaid : Prop := globOverlapsRow.holds Try.pinned (OpenSpec.ofChange globOverlapsSpec)

/-- ITS FALSE NEIGHBOUR: 'it returns false'. Refute it at one input. -/
def globOverlapsWrong : ChangeSpec := { name := "globOverlaps", fn := fun _ => fun
  | [d1, d2, d3] => { results := [.lit (.bool false)], args := [d1, d2, d3] }
  | _ => none }
def GlobOverlapsWrongFalsely : Prop := globOverlapsRow.holds Try.pinned (OpenSpec.ofChange globOverlapsWrong)

/-- 'pipelinelaw06.GlobWitness': WHATEVER THE INPUT: true; the input reads as it did. -/
def globWitnessSpec : ChangeSpec := { name := "globWitness", fn := fun _ => fun
  | [d1, d2] => { results := [.lit (.bool true)], args := [d1, d2] }
  | _ => none }
def globWitnessRow : OpenClaim := { program := "ytnmbabaihfdljaa", sum := "529a33a70d5a9a39b9ce9c2c76e63f73a192a80996ca5ee8ada91175a79c8180", func := "pipeline/pipelinelaw06.GlobWitness", spec := "globWitness", unfollowed := true, recurses := true, plainKeys := false, apart := false }
def GlobWitnessSaid : Prop := globWitnessRow.holds Try.pinned (OpenSpec.ofChange globWitnessSpec)

/-- ITS FALSE NEIGHBOUR: 'it returns false'. Refute it at one input. -/
def globWitnessWrong : ChangeSpec := { name := "globWitness", fn := fun _ => fun
  | [d1, d2] => { results := [.lit (.bool false)], args := [d1, d2] }
  | _ => none }
def GlobWitnessWrongFalsely : Prop := globWitnessRow.holds Try.pinned (OpenSpec.ofChange globWitnessWrong)

/- THE SECOND FORM. 'bulk': how many values and letters a reading holds, each counted each time it is reached (what is shared counts as often as it is met; a slice's spare places count too). A statement '..UptoSaid' is the law's where the arguments, and the package variables that the reading takes, are together of bulk at most 1048576: NARROWER than '..Said'. Prove '..Said' where nothing that the law and all that it calls make is longer than what came in: it says more and counts as full. Else prove '..UptoSaid'. A law counts once. -/
mutual
def uptoBulk {H : Type} : DataW H → Nat
  | .lit (.string bytes) => bytes.length + 1
  | .lit _ => 1
  | .nil => 1
  | .ptr d => uptoBulk d + 1
  | .slice elems spare => uptoBulkAll elems + uptoBulkAll spare + 1
  | .agg parts => uptoBulkAll parts + 1
  | .iface _ d => uptoBulk d + 1
  | .map entries => uptoBulkEntries entries + 1
  | .held _ => 1
def uptoBulkAll {H : Type} : List (DataW H) → Nat
  | [] => 0
  | d :: r => uptoBulk d + uptoBulkAll r
def uptoBulkEntries {H : Type} : List (Lit × DataW H) → Nat
  | [] => 0
  | x :: r => uptoBulkEntry x + uptoBulkEntries r
def uptoBulkEntry {H : Type} : Lit × DataW H → Nat
  | (.string bytes, d) => bytes.length + uptoBulk d + 1
  | (_, d) => uptoBulk d + 1
 end
def uptoSmall : (H : Type) → List (DataW H) → Bool := fun _ ds => decide (uptoBulkAll ds ≤ 1048576)
def OpenSpec.upto (s : _root_.Go.ChangeSpec) : _root_.Go.OpenSpec := { _root_.Go.OpenSpec.ofChange s with cond := some uptoSmall }

/-- 'pipelinelaw06.GlobValid', WHERE WHAT IT READS IS OF BULK AT MOST 1048576: true; the input reads as it did. -/
def globValidUptoRow : OpenClaim := { program := "ytnmbabaihfdljaa", sum := "529a33a70d5a9a39b9ce9c2c76e63f73a192a80996ca5ee8ada91175a79c8180", func := "pipeline/pipelinelaw06.GlobValid", spec := "globValid", unfollowed := true, recurses := true, plainKeys := false, apart := false, narrowed := true }
def GlobValidUptoSaid : Prop := globValidUptoRow.holds Try.pinned (OpenSpec.upto globValidSpec)

/-- 'pipelinelaw06.GlobMatches', WHERE WHAT IT READS IS OF BULK AT MOST 1048576: true; the input reads as it did. -/
def globMatchesUptoRow : OpenClaim := { program := "ytnmbabaihfdljaa", sum := "529a33a70d5a9a39b9ce9c2c76e63f73a192a80996ca5ee8ada91175a79c8180", func := "pipeline/pipelinelaw06.GlobMatches", spec := "globMatches", unfollowed := true, recurses := true, plainKeys := false, apart := false, narrowed := true }
def GlobMatchesUptoSaid : Prop := globMatchesUptoRow.holds Try.pinned (OpenSpec.upto globMatchesSpec)

/-- 'pipelinelaw06.GlobLists', WHERE WHAT IT READS IS OF BULK AT MOST 1048576: true; the input reads as it did. -/
def globListsUptoRow : OpenClaim := { program := "ytnmbabaihfdljaa", sum := "529a33a70d5a9a39b9ce9c2c76e63f73a192a80996ca5ee8ada91175a79c8180", func := "pipeline/pipelinelaw06.GlobLists", spec := "globLists", unfollowed := true, recurses := true, plainKeys := false, apart := false, narrowed := true }
def GlobListsUptoSaid : Prop := globListsUptoRow.holds Try.pinned (OpenSpec.upto globListsSpec)

/-- 'pipelinelaw06.GlobPrefixes', WHERE WHAT IT READS IS OF BULK AT MOST 1048576: true; the input reads as it did. -/
def globPrefixesUptoRow : OpenClaim := { program := "ytnmbabaihfdljaa", sum := "529a33a70d5a9a39b9ce9c2c76e63f73a192a80996ca5ee8ada91175a79c8180", func := "pipeline/pipelinelaw06.GlobPrefixes", spec := "globPrefixes", unfollowed := true, recurses := true, plainKeys := false, apart := false, narrowed := true }
def GlobPrefixesUptoSaid : Prop := globPrefixesUptoRow.holds Try.pinned (OpenSpec.upto globPrefixesSpec)

/-- 'pipelinelaw06.GlobEscapes', WHERE WHAT IT READS IS OF BULK AT MOST 1048576: true; the input reads as it did. -/
def globEscapesUptoRow : OpenClaim := { program := "ytnmbabaihfdljaa", sum := "529a33a70d5a9a39b9ce9c2c76e63f73a192a80996ca5ee8ada91175a79c8180", func := "pipeline/pipelinelaw06.GlobEscapes", spec := "globEscapes", unfollowed := true, recurses := true, plainKeys := false, apart := false, narrowed := true }
def GlobEscapesUptoSaid : Prop := globEscapesUptoRow.holds Try.pinned (OpenSpec.upto globEscapesSpec)

/-- 'pipelinelaw06.GlobOverlaps', WHERE WHAT IT READS IS OF BULK AT MOST 1048576: true; the input reads as it did. -/
def globOverlapsUptoRow : OpenClaim := { program := "ytnmbabaihfdljaa", sum := "529a33a70d5a9a39b9ce9c2c76e63f73a192a80996ca5ee8ada91175a79c8180", func := "pipeline/pipelinelaw06.GlobOverlaps", spec := "globOverlaps", unfollowed := true, recurses := true, plainKeys := false, apart := false, narrowed := true }
def GlobOverlapsUptoSaid : Prop := globOverlapsUptoRow.holds Try.pinned (OpenSpec.upto globOverlapsSpec)

/-- 'pipelinelaw06.GlobWitness', WHERE WHAT IT READS IS OF BULK AT MOST 1048576: true; the input reads as it did. -/
def globWitnessUptoRow : OpenClaim := { program := "ytnmbabaihfdljaa", sum := "529a33a70d5a9a39b9ce9c2c76e63f73a192a80996ca5ee8ada91175a79c8180", func := "pipeline/pipelinelaw06.GlobWitness", spec := "globWitness", unfollowed := true, recurses := true, plainKeys := false, apart := false, narrowed := true }
def GlobWitnessUptoSaid : Prop := globWitnessUptoRow.holds Try.pinned (OpenSpec.upto globWitnessSpec)

end Rows
end Go.Proofs.Ytnmbabaihfdljaa
