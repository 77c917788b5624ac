/-
  NARROWER THAN 'FOR EVERY INPUT', by the rows' own cells (each row's printed sentence says how): QuarantineAdds: laid · QuarantineActive: laid · QuarantineApplies: laid · QuarantineUpdates: laid · QuarantineEnds: laid · QuarantineSpares: laid.
  DERIVED. THE GIVEN ROWS OF THIS SEAT. 6 by the template 'for every input the law returns true; each argument reads behind the call as it read before'; 0 by the template 'total and deterministic' (their statements: YthnodeicbicjcaaDoorTotals.lean).
  GIVEN WITH THE SEED: the statements are not yours to turn. If you find one false, say at which input.
  Laid BY PROGRAM, IN A SANDBOX (cutbox-rows.mjs): the forced cells as the released guide's own fill.sh prints them over the translation fcbd13cec65515f0… (all of the seat's roots in one cut). By AI agents, Wed Nov 11 2026. No macro, syntax, notation, axiom, sorry.
-/
import Derived.Test.YthnodeicbicjcaaDoorChecked
import GoSem.PinnedTables
import GoSem.Claim
import GoSem.ClaimJoined
import GoSem.ClaimMapViews
import Derived.JoinedTies
import Derived.KernelRfl
namespace Go.Proofs.YthnodeicbicjcaaDoor
/- THE CELL 'sum', in the pinned program and in every row, IS THE sha256 OF THE DUMP (.gsa) THAT YthnodeicbicjcaaDoorProg.lean LOADS. Nothing in Lean hashes anything: it is a label: what it is worth is what the hold of that sum in a sandbox is worth. -/
noncomputable def Tryd.pinned : Pinned := { name := "ythnodeicbicjcaadoor", sum := "fcbd13cec65515f071c611fb417efc26d053434e50201e31beda72d7c9715200", checked := Tryd.checked }
namespace Rows
def none {H : Type} : Left H := { results := [], args := [] }

/- WHAT THE LISTED PACKAGE-LEVEL VARIABLES READ AS WHEN THE CALL BEGINS. Each datum BY PROGRAM (the guide's laid-datum.mjs) off the statement by which the dump's own 'gosem.cut.vars' lays the variable. In a bare row this is a premise. The card (YthnodeicbicjcaaDoorCards.lean) ties it to the program's text. -/
def laid_unicode_utf8_acceptRanges {H : Type} : DataW H := .agg [.agg [.lit (.int .u8 128), .lit (.int .u8 191)], .agg [.lit (.int .u8 160), .lit (.int .u8 191)], .agg [.lit (.int .u8 128), .lit (.int .u8 159)], .agg [.lit (.int .u8 144), .lit (.int .u8 191)], .agg [.lit (.int .u8 128), .lit (.int .u8 143)], .agg [.lit (.int .u8 0), .lit (.int .u8 0)], .agg [.lit (.int .u8 0), .lit (.int .u8 0)], .agg [.lit (.int .u8 0), .lit (.int .u8 0)], .agg [.lit (.int .u8 0), .lit (.int .u8 0)], .agg [.lit (.int .u8 0), .lit (.int .u8 0)], .agg [.lit (.int .u8 0), .lit (.int .u8 0)], .agg [.lit (.int .u8 0), .lit (.int .u8 0)], .agg [.lit (.int .u8 0), .lit (.int .u8 0)], .agg [.lit (.int .u8 0), .lit (.int .u8 0)], .agg [.lit (.int .u8 0), .lit (.int .u8 0)], .agg [.lit (.int .u8 0), .lit (.int .u8 0)]]
/-- One of Go's own tables, pinned by name: the form's constant. -/
def laid_unicode_utf8_first : DataW Unit := Go.Pinned.utf8First

/-- 'pipelinelaw40.QuarantineAdds': WHATEVER THE INPUT: true; the input reads as it did. -/
def quarantineAddsSpec : ChangeSpec := { name := "quarantineAdds", fn := fun _ => fun
  | [d1, d2, d3] => { results := [.lit (.bool true)], args := [d1, d2, d3] }
  | _ => none }
def quarantineAddsRow : OpenClaim := { program := "ythnodeicbicjcaadoor", sum := "fcbd13cec65515f071c611fb417efc26d053434e50201e31beda72d7c9715200", func := "pipeline/pipelinelaw40.QuarantineAdds", spec := "quarantineAdds", inPlace := ["internal/bytealg.CountString", "internal/bytealg.IndexByteString", "internal/bytealg.IndexString"], unfollowed := true, recurses := true, named := ["unicode/utf8.first", "unicode/utf8.acceptRanges", "internal/bytealg.MaxLen"], apart := false, laid := [("unicode/utf8.acceptRanges", laid_unicode_utf8_acceptRanges), ("unicode/utf8.first", laid_unicode_utf8_first)] }
def QuarantineAddsSaid : Prop := quarantineAddsRow.holds Tryd.pinned (OpenSpec.ofChange quarantineAddsSpec)

/-- ITS FALSE NEIGHBOUR: 'it returns false'. Refute it at one input. -/
def quarantineAddsWrong : ChangeSpec := { name := "quarantineAdds", fn := fun _ => fun
  | [d1, d2, d3] => { results := [.lit (.bool false)], args := [d1, d2, d3] }
  | _ => none }
def QuarantineAddsWrongFalsely : Prop := quarantineAddsRow.holds Tryd.pinned (OpenSpec.ofChange quarantineAddsWrong)

/-- 'pipelinelaw40.QuarantineActive': WHATEVER THE INPUT: true; the input reads as it did. -/
def quarantineActiveSpec : ChangeSpec := { name := "quarantineActive", fn := fun _ => fun
  | [d1, d2, d3] => { results := [.lit (.bool true)], args := [d1, d2, d3] }
  | _ => none }
def quarantineActiveRow : OpenClaim := { program := "ythnodeicbicjcaadoor", sum := "fcbd13cec65515f071c611fb417efc26d053434e50201e31beda72d7c9715200", func := "pipeline/pipelinelaw40.QuarantineActive", spec := "quarantineActive", inPlace := ["internal/bytealg.CountString", "internal/bytealg.IndexByteString", "internal/bytealg.IndexString"], unfollowed := true, recurses := true, named := ["unicode/utf8.first", "unicode/utf8.acceptRanges", "internal/bytealg.MaxLen"], apart := false, laid := [("unicode/utf8.acceptRanges", laid_unicode_utf8_acceptRanges), ("unicode/utf8.first", laid_unicode_utf8_first)] }
def QuarantineActiveSaid : Prop := quarantineActiveRow.holds Tryd.pinned (OpenSpec.ofChange quarantineActiveSpec)

/-- ITS FALSE NEIGHBOUR: 'it returns false'. Refute it at one input. -/
def quarantineActiveWrong : ChangeSpec := { name := "quarantineActive", fn := fun _ => fun
  | [d1, d2, d3] => { results := [.lit (.bool false)], args := [d1, d2, d3] }
  | _ => none }
def QuarantineActiveWrongFalsely : Prop := quarantineActiveRow.holds Tryd.pinned (OpenSpec.ofChange quarantineActiveWrong)

/-- 'pipelinelaw40.QuarantineApplies': WHATEVER THE INPUT: true; the input reads as it did. -/
def quarantineAppliesSpec : ChangeSpec := { name := "quarantineApplies", fn := fun _ => fun
  | [d1, d2, d3] => { results := [.lit (.bool true)], args := [d1, d2, d3] }
  | _ => none }
def quarantineAppliesRow : OpenClaim := { program := "ythnodeicbicjcaadoor", sum := "fcbd13cec65515f071c611fb417efc26d053434e50201e31beda72d7c9715200", func := "pipeline/pipelinelaw40.QuarantineApplies", spec := "quarantineApplies", inPlace := ["internal/bytealg.CountString", "internal/bytealg.IndexByteString", "internal/bytealg.IndexString"], unfollowed := true, recurses := true, named := ["unicode/utf8.first", "unicode/utf8.acceptRanges", "internal/bytealg.MaxLen"], apart := false, laid := [("unicode/utf8.acceptRanges", laid_unicode_utf8_acceptRanges), ("unicode/utf8.first", laid_unicode_utf8_first)] }
def QuarantineAppliesSaid : Prop := quarantineAppliesRow.holds Tryd.pinned (OpenSpec.ofChange quarantineAppliesSpec)

/-- ITS FALSE NEIGHBOUR: 'it returns false'. Refute it at one input. -/
def quarantineAppliesWrong : ChangeSpec := { name := "quarantineApplies", fn := fun _ => fun
  | [d1, d2, d3] => { results := [.lit (.bool false)], args := [d1, d2, d3] }
  | _ => none }
def QuarantineAppliesWrongFalsely : Prop := quarantineAppliesRow.holds Tryd.pinned (OpenSpec.ofChange quarantineAppliesWrong)

/-- 'pipelinelaw40.QuarantineUpdates': WHATEVER THE INPUT: true; the input reads as it did. -/
def quarantineUpdatesSpec : ChangeSpec := { name := "quarantineUpdates", fn := fun _ => fun
  | [d1, d2, d3] => { results := [.lit (.bool true)], args := [d1, d2, d3] }
  | _ => none }
def quarantineUpdatesRow : OpenClaim := { program := "ythnodeicbicjcaadoor", sum := "fcbd13cec65515f071c611fb417efc26d053434e50201e31beda72d7c9715200", func := "pipeline/pipelinelaw40.QuarantineUpdates", spec := "quarantineUpdates", inPlace := ["internal/bytealg.CountString", "internal/bytealg.IndexByteString", "internal/bytealg.IndexString"], unfollowed := true, recurses := true, named := ["unicode/utf8.first", "unicode/utf8.acceptRanges", "internal/bytealg.MaxLen"], apart := false, laid := [("unicode/utf8.acceptRanges", laid_unicode_utf8_acceptRanges), ("unicode/utf8.first", laid_unicode_utf8_first)] }
def QuarantineUpdatesSaid : Prop := quarantineUpdatesRow.holds Tryd.pinned (OpenSpec.ofChange quarantineUpdatesSpec)

/-- ITS FALSE NEIGHBOUR: 'it returns false'. Refute it at one input. -/
def quarantineUpdatesWrong : ChangeSpec := { name := "quarantineUpdates", fn := fun _ => fun
  | [d1, d2, d3] => { results := [.lit (.bool false)], args := [d1, d2, d3] }
  | _ => none }
def QuarantineUpdatesWrongFalsely : Prop := quarantineUpdatesRow.holds Tryd.pinned (OpenSpec.ofChange quarantineUpdatesWrong)

/-- 'pipelinelaw40.QuarantineEnds': WHATEVER THE INPUT: true; the input reads as it did. -/
def quarantineEndsSpec : ChangeSpec := { name := "quarantineEnds", fn := fun _ => fun
  | [d1, d2, d3] => { results := [.lit (.bool true)], args := [d1, d2, d3] }
  | _ => none }
def quarantineEndsRow : OpenClaim := { program := "ythnodeicbicjcaadoor", sum := "fcbd13cec65515f071c611fb417efc26d053434e50201e31beda72d7c9715200", func := "pipeline/pipelinelaw40.QuarantineEnds", spec := "quarantineEnds", inPlace := ["internal/bytealg.CountString", "internal/bytealg.IndexByteString", "internal/bytealg.IndexString"], unfollowed := true, recurses := true, named := ["unicode/utf8.first", "unicode/utf8.acceptRanges", "internal/bytealg.MaxLen"], apart := false, laid := [("unicode/utf8.acceptRanges", laid_unicode_utf8_acceptRanges), ("unicode/utf8.first", laid_unicode_utf8_first)] }
def QuarantineEndsSaid : Prop := quarantineEndsRow.holds Tryd.pinned (OpenSpec.ofChange quarantineEndsSpec)

/-- ITS FALSE NEIGHBOUR: 'it returns false'. Refute it at one input. -/
def quarantineEndsWrong : ChangeSpec := { name := "quarantineEnds", fn := fun _ => fun
  | [d1, d2, d3] => { results := [.lit (.bool false)], args := [d1, d2, d3] }
  | _ => none }
def QuarantineEndsWrongFalsely : Prop := quarantineEndsRow.holds Tryd.pinned (OpenSpec.ofChange quarantineEndsWrong)

/-- 'pipelinelaw40.QuarantineSpares': WHATEVER THE INPUT: true; the input reads as it did. -/
def quarantineSparesSpec : ChangeSpec := { name := "quarantineSpares", fn := fun _ => fun
  | [d1, d2, d3] => { results := [.lit (.bool true)], args := [d1, d2, d3] }
  | _ => none }
def quarantineSparesRow : OpenClaim := { program := "ythnodeicbicjcaadoor", sum := "fcbd13cec65515f071c611fb417efc26d053434e50201e31beda72d7c9715200", func := "pipeline/pipelinelaw40.QuarantineSpares", spec := "quarantineSpares", inPlace := ["internal/bytealg.CountString", "internal/bytealg.IndexByteString", "internal/bytealg.IndexString"], unfollowed := true, recurses := true, named := ["unicode/utf8.first", "unicode/utf8.acceptRanges", "internal/bytealg.MaxLen"], apart := false, laid := [("unicode/utf8.acceptRanges", laid_unicode_utf8_acceptRanges), ("unicode/utf8.first", laid_unicode_utf8_first)] }
def QuarantineSparesSaid : Prop := quarantineSparesRow.holds Tryd.pinned (OpenSpec.ofChange quarantineSparesSpec)

/-- ITS FALSE NEIGHBOUR: 'it returns false'. Refute it at one input. -/
def quarantineSparesWrong : ChangeSpec := { name := "quarantineSpares", fn := fun _ => fun
  | [d1, d2, d3] => { results := [.lit (.bool false)], args := [d1, d2, d3] }
  | _ => none }
def QuarantineSparesWrongFalsely : Prop := quarantineSparesRow.holds Tryd.pinned (OpenSpec.ofChange quarantineSparesWrong)

/- THE SECOND FORM. 'bulk': how many values and letters a reading holds, each counted each time it is reached (what is shared counts as often as it is met; a slice's spare places count too). A statement '..UptoSaid' is the law's where the arguments, and the package variables that the reading takes, are together of bulk at most 1048576: NARROWER than '..Said'. Prove '..Said' where nothing that the law and all that it calls make is longer than what came in: it says more and counts as full. Else prove '..UptoSaid'. A law counts once. -/
mutual
def uptoBulk {H : Type} : DataW H → Nat
  | .lit (.string bytes) => bytes.length + 1
  | .lit _ => 1
  | .nil => 1
  | .ptr d => uptoBulk d + 1
  | .slice elems spare => uptoBulkAll elems + uptoBulkAll spare + 1
  | .agg parts => uptoBulkAll parts + 1
  | .iface _ d => uptoBulk d + 1
  | .map entries => uptoBulkEntries entries + 1
  | .held _ => 1
def uptoBulkAll {H : Type} : List (DataW H) → Nat
  | [] => 0
  | d :: r => uptoBulk d + uptoBulkAll r
def uptoBulkEntries {H : Type} : List (Lit × DataW H) → Nat
  | [] => 0
  | x :: r => uptoBulkEntry x + uptoBulkEntries r
def uptoBulkEntry {H : Type} : Lit × DataW H → Nat
  | (.string bytes, d) => bytes.length + uptoBulk d + 1
  | (_, d) => uptoBulk d + 1
 end
def uptoSmall : (H : Type) → List (DataW H) → Bool := fun _ ds => decide (uptoBulkAll ds ≤ 1048576)
def OpenSpec.upto (s : _root_.Go.ChangeSpec) : _root_.Go.OpenSpec := { _root_.Go.OpenSpec.ofChange s with cond := some uptoSmall }

/-- 'pipelinelaw40.QuarantineAdds', WHERE WHAT IT READS IS OF BULK AT MOST 1048576: true; the input reads as it did. -/
def quarantineAddsUptoRow : OpenClaim := { program := "ythnodeicbicjcaadoor", sum := "fcbd13cec65515f071c611fb417efc26d053434e50201e31beda72d7c9715200", func := "pipeline/pipelinelaw40.QuarantineAdds", spec := "quarantineAdds", inPlace := ["internal/bytealg.CountString", "internal/bytealg.IndexByteString", "internal/bytealg.IndexString"], unfollowed := true, recurses := true, named := ["unicode/utf8.first", "unicode/utf8.acceptRanges", "internal/bytealg.MaxLen"], apart := false, laid := [("unicode/utf8.acceptRanges", laid_unicode_utf8_acceptRanges), ("unicode/utf8.first", laid_unicode_utf8_first)], narrowed := true }
def QuarantineAddsUptoSaid : Prop := quarantineAddsUptoRow.holds Tryd.pinned (OpenSpec.upto quarantineAddsSpec)

/-- 'pipelinelaw40.QuarantineActive', WHERE WHAT IT READS IS OF BULK AT MOST 1048576: true; the input reads as it did. -/
def quarantineActiveUptoRow : OpenClaim := { program := "ythnodeicbicjcaadoor", sum := "fcbd13cec65515f071c611fb417efc26d053434e50201e31beda72d7c9715200", func := "pipeline/pipelinelaw40.QuarantineActive", spec := "quarantineActive", inPlace := ["internal/bytealg.CountString", "internal/bytealg.IndexByteString", "internal/bytealg.IndexString"], unfollowed := true, recurses := true, named := ["unicode/utf8.first", "unicode/utf8.acceptRanges", "internal/bytealg.MaxLen"], apart := false, laid := [("unicode/utf8.acceptRanges", laid_unicode_utf8_acceptRanges), ("unicode/utf8.first", laid_unicode_utf8_first)], narrowed := true }
def QuarantineActiveUptoSaid : Prop := quarantineActiveUptoRow.holds Tryd.pinned (OpenSpec.upto quarantineActiveSpec)

/-- 'pipelinelaw40.QuarantineApplies', WHERE WHAT IT READS IS OF BULK AT MOST 1048576: true; the input reads as it did. -/
def quarantineAppliesUptoRow : OpenClaim := { program := "ythnodeicbicjcaadoor", sum := "fcbd13cec65515f071c611fb417efc26d053434e50201e31beda72d7c9715200", func := "pipeline/pipelinelaw40.QuarantineApplies", spec := "quarantineApplies", inPlace := ["internal/bytealg.CountString", "internal/bytealg.IndexByteString", "internal/bytealg.IndexString"], unfollowed := true, recurses := true, named := ["unicode/utf8.first", "unicode/utf8.acceptRanges", "internal/bytealg.MaxLen"], apart := false, laid := [("unicode/utf8.acceptRanges", laid_unicode_utf8_acceptRanges), ("unicode/utf8.first", laid_unicode_utf8_first)], narrowed := true }
def QuarantineAppliesUptoSaid : Prop := quarantineAppliesUptoRow.holds Tryd.pinned (OpenSpec.upto quarantineAppliesSpec)

/-- 'pipelinelaw40.QuarantineUpdates', WHERE WHAT IT READS IS OF BULK AT MOST 1048576: true; the input reads as it did. -/
def quarantineUpdatesUptoRow : OpenClaim := { program := "ythnodeicbicjcaadoor", sum := "fcbd13cec65515f071c611fb417efc26d053434e50201e31beda72d7c9715200", func := "pipeline/pipelinelaw40.QuarantineUpdates", spec := "quarantineUpdates", inPlace := ["internal/bytealg.CountString", "internal/bytealg.IndexByteString", "internal/bytealg.IndexString"], unfollowed := true, recurses := true, named := ["unicode/utf8.first", "unicode/utf8.acceptRanges", "internal/bytealg.MaxLen"], apart := false, laid := [("unicode/utf8.acceptRanges", laid_unicode_utf8_acceptRanges), ("unicode/utf8.first", laid_unicode_utf8_first)], narrowed := true }
def QuarantineUpdatesUptoSaid : Prop := quarantineUpdatesUptoRow.holds Tryd.pinned (OpenSpec.upto quarantineUpdatesSpec)

/-- 'pipelinelaw40.QuarantineEnds', WHERE WHAT IT READS IS OF BULK AT MOST 1048576: true; the input reads as it did. -/
def quarantineEndsUptoRow : OpenClaim := { program := "ythnodeicbicjcaadoor", sum := "fcbd13cec65515f071c611fb417efc26d053434e50201e31beda72d7c9715200", func := "pipeline/pipelinelaw40.QuarantineEnds", spec := "quarantineEnds", inPlace := ["internal/bytealg.CountString", "internal/bytealg.IndexByteString", "internal/bytealg.IndexString"], unfollowed := true, recurses := true, named := ["unicode/utf8.first", "unicode/utf8.acceptRanges", "internal/bytealg.MaxLen"], apart := false, laid := [("unicode/utf8.acceptRanges", laid_unicode_utf8_acceptRanges), ("unicode/utf8.first", laid_unicode_utf8_first)], narrowed := true }
def QuarantineEndsUptoSaid : Prop := quarantineEndsUptoRow.holds Tryd.pinned (OpenSpec.upto quarantineEndsSpec)

/-- 'pipelinelaw40.QuarantineSpares', WHERE WHAT IT READS IS OF BULK AT MOST 1048576: true; the input reads as it did. -/
def quarantineSparesUptoRow : OpenClaim := { program := "ythnodeicbicjcaadoor", sum := "fcbd13cec65515f071c611fb417efc26d053434e50201e31beda72d7c9715200", func := "pipeline/pipelinelaw40.QuarantineSpares", spec := "quarantineSpares", inPlace := ["internal/bytealg.CountString", "internal/bytealg.IndexByteString", "internal/bytealg.IndexString"], unfollowed := true, recurses := true, named := ["unicode/utf8.first", "unicode/utf8.acceptRanges", "internal/bytealg.MaxLen"], apart := false, laid := [("unicode/utf8.acceptRanges", laid_unicode_utf8_acceptRanges), ("unicode/utf8.first", laid_unicode_utf8_first)], narrowed := true }
def QuarantineSparesUptoSaid : Prop := quarantineSparesUptoRow.holds Tryd.pinned (OpenSpec.upto quarantineSparesSpec)

end Rows
end Go.Proofs.YthnodeicbicjcaaDoor
