/-
  NARROWER THAN 'FOR EVERY INPUT', by the rows' own cells (each row's printed sentence says how): SandboxExecutes: loops, laid · SandboxRestricts: loops, laid · SandboxHermetic: loops, laid · SandboxInputs: loops, laid · SandboxCaches: loops, laid · SandboxLogs: laid.
  DERIVED. THE GIVEN ROWS OF THIS SEAT. 6 by the template 'for every input the law returns true; each argument reads behind the call as it read before'; 0 by the template 'total and deterministic' (their statements: YtghahghbahcpfaaGreatDoorTotals.lean).
  GIVEN WITH THE SEED: the statements are not yours to turn. If you find one false, say at which input.
  Laid BY PROGRAM, IN A SANDBOX (cutbox-rows.mjs): the forced cells as the released guide's own fill.sh prints them over the translation a35222194bfd142c… (all of the seat's roots in one cut). By AI agents, Wed Nov 11 2026. No macro, syntax, notation, axiom, sorry.
-/
import Derived.Test.YtghahghbahcpfaaGreatDoorChecked
import GoSem.PinnedTables
import GoSem.Claim
import GoSem.ClaimJoined
import GoSem.ClaimMapViews
import Derived.JoinedTies
import Derived.KernelRfl
namespace Go.Proofs.YtghahghbahcpfaaGreatDoor
/- THE CELL 'sum', in the pinned program and in every row, IS THE sha256 OF THE DUMP (.gsa) THAT YtghahghbahcpfaaGreatDoorProg.lean LOADS. Nothing in Lean hashes anything: it is a label: what it is worth is what the hold of that sum in a sandbox is worth. -/
noncomputable def Tryz.pinned : Pinned := { name := "ytghahghbahcpfaagreatdoor", sum := "a35222194bfd142c35b563a77eca59e06bacd64dc1f18494fcae0e96d9bd9865", checked := Tryz.checked }
namespace Rows
def none {H : Type} : Left H := { results := [], args := [] }

/- WHAT THE LISTED PACKAGE-LEVEL VARIABLES READ AS WHEN THE CALL BEGINS. Each datum BY PROGRAM (the guide's laid-datum.mjs) off the statement by which the dump's own 'gosem.cut.vars' lays the variable. In a bare row this is a premise. The card (YtghahghbahcpfaaGreatDoorCards.lean) ties it to the program's text. -/
def laid_unicode_utf8_acceptRanges {H : Type} : DataW H := .agg [.agg [.lit (.int .u8 128), .lit (.int .u8 191)], .agg [.lit (.int .u8 160), .lit (.int .u8 191)], .agg [.lit (.int .u8 128), .lit (.int .u8 159)], .agg [.lit (.int .u8 144), .lit (.int .u8 191)], .agg [.lit (.int .u8 128), .lit (.int .u8 143)], .agg [.lit (.int .u8 0), .lit (.int .u8 0)], .agg [.lit (.int .u8 0), .lit (.int .u8 0)], .agg [.lit (.int .u8 0), .lit (.int .u8 0)], .agg [.lit (.int .u8 0), .lit (.int .u8 0)], .agg [.lit (.int .u8 0), .lit (.int .u8 0)], .agg [.lit (.int .u8 0), .lit (.int .u8 0)], .agg [.lit (.int .u8 0), .lit (.int .u8 0)], .agg [.lit (.int .u8 0), .lit (.int .u8 0)], .agg [.lit (.int .u8 0), .lit (.int .u8 0)], .agg [.lit (.int .u8 0), .lit (.int .u8 0)], .agg [.lit (.int .u8 0), .lit (.int .u8 0)]]
/-- One of Go's own tables, pinned by name: the form's constant. -/
def laid_unicode_utf8_first : DataW Unit := Go.Pinned.utf8First

/-- 'pipelinelaw53.SandboxExecutes': WHATEVER THE INPUT: true; the input reads as it did. -/
def sandboxExecutesSpec : ChangeSpec := { name := "sandboxExecutes", fn := fun _ => fun
  | [d1, d2] => { results := [.lit (.bool true)], args := [d1, d2] }
  | _ => none }
def sandboxExecutesRow : OpenClaim := { program := "ytghahghbahcpfaagreatdoor", sum := "a35222194bfd142c35b563a77eca59e06bacd64dc1f18494fcae0e96d9bd9865", func := "pipeline/pipelinelaw53.SandboxExecutes", spec := "sandboxExecutes", inPlace := ["internal/abi.NoEscape", "internal/bytealg.CountString", "internal/bytealg.IndexByteString", "internal/bytealg.IndexString"], unfollowed := true, recurses := true, named := ["unicode/utf8.first", "unicode/utf8.acceptRanges", "internal/bytealg.MaxLen"], loops := true, apart := false, laid := [("unicode/utf8.acceptRanges", laid_unicode_utf8_acceptRanges), ("unicode/utf8.first", laid_unicode_utf8_first)] }
def SandboxExecutesSaid : Prop := sandboxExecutesRow.holds Tryz.pinned (OpenSpec.ofChange sandboxExecutesSpec)

/-- ITS FALSE NEIGHBOUR: 'it returns false'. Refute it at one input. -/
def sandboxExecutesWrong : ChangeSpec := { name := "sandboxExecutes", fn := fun _ => fun
  | [d1, d2] => { results := [.lit (.bool false)], args := [d1, d2] }
  | _ => none }
def SandboxExecutesWrongFalsely : Prop := sandboxExecutesRow.holds Tryz.pinned (OpenSpec.ofChange sandboxExecutesWrong)

/-- 'pipelinelaw53.SandboxRestricts': WHATEVER THE INPUT: true; the input reads as it did. -/
def sandboxRestrictsSpec : ChangeSpec := { name := "sandboxRestricts", fn := fun _ => fun
  | [d1, d2, d3] => { results := [.lit (.bool true)], args := [d1, d2, d3] }
  | _ => none }
def sandboxRestrictsRow : OpenClaim := { program := "ytghahghbahcpfaagreatdoor", sum := "a35222194bfd142c35b563a77eca59e06bacd64dc1f18494fcae0e96d9bd9865", func := "pipeline/pipelinelaw53.SandboxRestricts", spec := "sandboxRestricts", inPlace := ["internal/abi.NoEscape", "internal/bytealg.CountString", "internal/bytealg.IndexByteString", "internal/bytealg.IndexString"], unfollowed := true, recurses := true, named := ["unicode/utf8.first", "unicode/utf8.acceptRanges", "internal/bytealg.MaxLen"], loops := true, apart := false, laid := [("unicode/utf8.acceptRanges", laid_unicode_utf8_acceptRanges), ("unicode/utf8.first", laid_unicode_utf8_first)] }
def SandboxRestrictsSaid : Prop := sandboxRestrictsRow.holds Tryz.pinned (OpenSpec.ofChange sandboxRestrictsSpec)

/-- ITS FALSE NEIGHBOUR: 'it returns false'. Refute it at one input. -/
def sandboxRestrictsWrong : ChangeSpec := { name := "sandboxRestricts", fn := fun _ => fun
  | [d1, d2, d3] => { results := [.lit (.bool false)], args := [d1, d2, d3] }
  | _ => none }
def SandboxRestrictsWrongFalsely : Prop := sandboxRestrictsRow.holds Tryz.pinned (OpenSpec.ofChange sandboxRestrictsWrong)

/-- 'pipelinelaw53.SandboxHermetic': WHATEVER THE INPUT: true; the input reads as it did. -/
def sandboxHermeticSpec : ChangeSpec := { name := "sandboxHermetic", fn := fun _ => fun
  | [d1, d2, d3] => { results := [.lit (.bool true)], args := [d1, d2, d3] }
  | _ => none }
def sandboxHermeticRow : OpenClaim := { program := "ytghahghbahcpfaagreatdoor", sum := "a35222194bfd142c35b563a77eca59e06bacd64dc1f18494fcae0e96d9bd9865", func := "pipeline/pipelinelaw53.SandboxHermetic", spec := "sandboxHermetic", inPlace := ["internal/abi.NoEscape", "internal/bytealg.CountString", "internal/bytealg.IndexByteString", "internal/bytealg.IndexString"], unfollowed := true, recurses := true, named := ["unicode/utf8.first", "unicode/utf8.acceptRanges", "internal/bytealg.MaxLen"], loops := true, apart := false, laid := [("unicode/utf8.acceptRanges", laid_unicode_utf8_acceptRanges), ("unicode/utf8.first", laid_unicode_utf8_first)] }
def SandboxHermeticSaid : Prop := sandboxHermeticRow.holds Tryz.pinned (OpenSpec.ofChange sandboxHermeticSpec)

/-- ITS FALSE NEIGHBOUR: 'it returns false'. Refute it at one input. -/
def sandboxHermeticWrong : ChangeSpec := { name := "sandboxHermetic", fn := fun _ => fun
  | [d1, d2, d3] => { results := [.lit (.bool false)], args := [d1, d2, d3] }
  | _ => none }
def SandboxHermeticWrongFalsely : Prop := sandboxHermeticRow.holds Tryz.pinned (OpenSpec.ofChange sandboxHermeticWrong)

/-- 'pipelinelaw53.SandboxInputs': WHATEVER THE INPUT: true; the input reads as it did. -/
def sandboxInputsSpec : ChangeSpec := { name := "sandboxInputs", fn := fun _ => fun
  | [d1, d2] => { results := [.lit (.bool true)], args := [d1, d2] }
  | _ => none }
def sandboxInputsRow : OpenClaim := { program := "ytghahghbahcpfaagreatdoor", sum := "a35222194bfd142c35b563a77eca59e06bacd64dc1f18494fcae0e96d9bd9865", func := "pipeline/pipelinelaw53.SandboxInputs", spec := "sandboxInputs", inPlace := ["internal/abi.NoEscape", "internal/bytealg.CountString", "internal/bytealg.IndexByteString", "internal/bytealg.IndexString"], unfollowed := true, recurses := true, named := ["unicode/utf8.first", "unicode/utf8.acceptRanges", "internal/bytealg.MaxLen"], loops := true, apart := false, laid := [("unicode/utf8.acceptRanges", laid_unicode_utf8_acceptRanges), ("unicode/utf8.first", laid_unicode_utf8_first)] }
def SandboxInputsSaid : Prop := sandboxInputsRow.holds Tryz.pinned (OpenSpec.ofChange sandboxInputsSpec)

/-- ITS FALSE NEIGHBOUR: 'it returns false'. Refute it at one input. -/
def sandboxInputsWrong : ChangeSpec := { name := "sandboxInputs", fn := fun _ => fun
  | [d1, d2] => { results := [.lit (.bool false)], args := [d1, d2] }
  | _ => none }
def SandboxInputsWrongFalsely : Prop := sandboxInputsRow.holds Tryz.pinned (OpenSpec.ofChange sandboxInputsWrong)

/-- 'pipelinelaw53.SandboxCaches': WHATEVER THE INPUT: true; the input reads as it did. -/
def sandboxCachesSpec : ChangeSpec := { name := "sandboxCaches", fn := fun _ => fun
  | [d1, d2] => { results := [.lit (.bool true)], args := [d1, d2] }
  | _ => none }
def sandboxCachesRow : OpenClaim := { program := "ytghahghbahcpfaagreatdoor", sum := "a35222194bfd142c35b563a77eca59e06bacd64dc1f18494fcae0e96d9bd9865", func := "pipeline/pipelinelaw53.SandboxCaches", spec := "sandboxCaches", inPlace := ["internal/abi.NoEscape", "internal/bytealg.CountString", "internal/bytealg.IndexByteString", "internal/bytealg.IndexString"], unfollowed := true, recurses := true, named := ["unicode/utf8.first", "unicode/utf8.acceptRanges", "internal/bytealg.MaxLen"], loops := true, apart := false, laid := [("unicode/utf8.acceptRanges", laid_unicode_utf8_acceptRanges), ("unicode/utf8.first", laid_unicode_utf8_first)] }
def SandboxCachesSaid : Prop := sandboxCachesRow.holds Tryz.pinned (OpenSpec.ofChange sandboxCachesSpec)

/-- ITS FALSE NEIGHBOUR: 'it returns false'. Refute it at one input. -/
def sandboxCachesWrong : ChangeSpec := { name := "sandboxCaches", fn := fun _ => fun
  | [d1, d2] => { results := [.lit (.bool false)], args := [d1, d2] }
  | _ => none }
def SandboxCachesWrongFalsely : Prop := sandboxCachesRow.holds Tryz.pinned (OpenSpec.ofChange sandboxCachesWrong)

/-- 'pipelinelaw53.SandboxLogs': WHATEVER THE INPUT: true; the input reads as it did. -/
def sandboxLogsSpec : ChangeSpec := { name := "sandboxLogs", fn := fun _ => fun
  | [d] => { results := [.lit (.bool true)], args := [d] }
  | _ => none }
def sandboxLogsRow : OpenClaim := { program := "ytghahghbahcpfaagreatdoor", sum := "a35222194bfd142c35b563a77eca59e06bacd64dc1f18494fcae0e96d9bd9865", func := "pipeline/pipelinelaw53.SandboxLogs", spec := "sandboxLogs", inPlace := ["internal/abi.NoEscape", "internal/bytealg.CountString", "internal/bytealg.IndexByteString", "internal/bytealg.IndexString"], unfollowed := true, recurses := true, named := ["unicode/utf8.first", "unicode/utf8.acceptRanges", "internal/bytealg.MaxLen"], apart := false, laid := [("unicode/utf8.acceptRanges", laid_unicode_utf8_acceptRanges), ("unicode/utf8.first", laid_unicode_utf8_first)] }
def SandboxLogsSaid : Prop := sandboxLogsRow.holds Tryz.pinned (OpenSpec.ofChange sandboxLogsSpec)

/-- ITS FALSE NEIGHBOUR: 'it returns false'. Refute it at one input. -/
def sandboxLogsWrong : ChangeSpec := { name := "sandboxLogs", fn := fun _ => fun
  | [d] => { results := [.lit (.bool false)], args := [d] }
  | _ => none }
def SandboxLogsWrongFalsely : Prop := sandboxLogsRow.holds Tryz.pinned (OpenSpec.ofChange sandboxLogsWrong)

/- THE SECOND FORM. 'bulk': how many values and letters a reading holds, each counted each time it is reached (what is shared counts as often as it is met; a slice's spare places count too). A statement '..UptoSaid' is the law's where the arguments, and the package variables that the reading takes, are together of bulk at most 1048576: NARROWER than '..Said'. Prove '..Said' where nothing that the law and all that it calls make is longer than what came in: it says more and counts as full. Else prove '..UptoSaid'. A law counts once. -/
mutual
def uptoBulk {H : Type} : DataW H → Nat
  | .lit (.string bytes) => bytes.length + 1
  | .lit _ => 1
  | .nil => 1
  | .ptr d => uptoBulk d + 1
  | .slice elems spare => uptoBulkAll elems + uptoBulkAll spare + 1
  | .agg parts => uptoBulkAll parts + 1
  | .iface _ d => uptoBulk d + 1
  | .map entries => uptoBulkEntries entries + 1
  | .held _ => 1
def uptoBulkAll {H : Type} : List (DataW H) → Nat
  | [] => 0
  | d :: r => uptoBulk d + uptoBulkAll r
def uptoBulkEntries {H : Type} : List (Lit × DataW H) → Nat
  | [] => 0
  | x :: r => uptoBulkEntry x + uptoBulkEntries r
def uptoBulkEntry {H : Type} : Lit × DataW H → Nat
  | (.string bytes, d) => bytes.length + uptoBulk d + 1
  | (_, d) => uptoBulk d + 1
 end
def uptoSmall : (H : Type) → List (DataW H) → Bool := fun _ ds => decide (uptoBulkAll ds ≤ 1048576)
def OpenSpec.upto (s : _root_.Go.ChangeSpec) : _root_.Go.OpenSpec := { _root_.Go.OpenSpec.ofChange s with cond := some uptoSmall }

/-- 'pipelinelaw53.SandboxExecutes', WHERE WHAT IT READS IS OF BULK AT MOST 1048576: true; the input reads as it did. -/
def sandboxExecutesUptoRow : OpenClaim := { program := "ytghahghbahcpfaagreatdoor", sum := "a35222194bfd142c35b563a77eca59e06bacd64dc1f18494fcae0e96d9bd9865", func := "pipeline/pipelinelaw53.SandboxExecutes", spec := "sandboxExecutes", inPlace := ["internal/abi.NoEscape", "internal/bytealg.CountString", "internal/bytealg.IndexByteString", "internal/bytealg.IndexString"], unfollowed := true, recurses := true, named := ["unicode/utf8.first", "unicode/utf8.acceptRanges", "internal/bytealg.MaxLen"], loops := true, apart := false, laid := [("unicode/utf8.acceptRanges", laid_unicode_utf8_acceptRanges), ("unicode/utf8.first", laid_unicode_utf8_first)], narrowed := true }
def SandboxExecutesUptoSaid : Prop := sandboxExecutesUptoRow.holds Tryz.pinned (OpenSpec.upto sandboxExecutesSpec)

/-- 'pipelinelaw53.SandboxRestricts', WHERE WHAT IT READS IS OF BULK AT MOST 1048576: true; the input reads as it did. -/
def sandboxRestrictsUptoRow : OpenClaim := { program := "ytghahghbahcpfaagreatdoor", sum := "a35222194bfd142c35b563a77eca59e06bacd64dc1f18494fcae0e96d9bd9865", func := "pipeline/pipelinelaw53.SandboxRestricts", spec := "sandboxRestricts", inPlace := ["internal/abi.NoEscape", "internal/bytealg.CountString", "internal/bytealg.IndexByteString", "internal/bytealg.IndexString"], unfollowed := true, recurses := true, named := ["unicode/utf8.first", "unicode/utf8.acceptRanges", "internal/bytealg.MaxLen"], loops := true, apart := false, laid := [("unicode/utf8.acceptRanges", laid_unicode_utf8_acceptRanges), ("unicode/utf8.first", laid_unicode_utf8_first)], narrowed := true }
def SandboxRestrictsUptoSaid : Prop := sandboxRestrictsUptoRow.holds Tryz.pinned (OpenSpec.upto sandboxRestrictsSpec)

/-- 'pipelinelaw53.SandboxHermetic', WHERE WHAT IT READS IS OF BULK AT MOST 1048576: true; the input reads as it did. -/
def sandboxHermeticUptoRow : OpenClaim := { program := "ytghahghbahcpfaagreatdoor", sum := "a35222194bfd142c35b563a77eca59e06bacd64dc1f18494fcae0e96d9bd9865", func := "pipeline/pipelinelaw53.SandboxHermetic", spec := "sandboxHermetic", inPlace := ["internal/abi.NoEscape", "internal/bytealg.CountString", "internal/bytealg.IndexByteString", "internal/bytealg.IndexString"], unfollowed := true, recurses := true, named := ["unicode/utf8.first", "unicode/utf8.acceptRanges", "internal/bytealg.MaxLen"], loops := true, apart := false, laid := [("unicode/utf8.acceptRanges", laid_unicode_utf8_acceptRanges), ("unicode/utf8.first", laid_unicode_utf8_first)], narrowed := true }
def SandboxHermeticUptoSaid : Prop := sandboxHermeticUptoRow.holds Tryz.pinned (OpenSpec.upto sandboxHermeticSpec)

/-- 'pipelinelaw53.SandboxInputs', WHERE WHAT IT READS IS OF BULK AT MOST 1048576: true; the input reads as it did. -/
def sandboxInputsUptoRow : OpenClaim := { program := "ytghahghbahcpfaagreatdoor", sum := "a35222194bfd142c35b563a77eca59e06bacd64dc1f18494fcae0e96d9bd9865", func := "pipeline/pipelinelaw53.SandboxInputs", spec := "sandboxInputs", inPlace := ["internal/abi.NoEscape", "internal/bytealg.CountString", "internal/bytealg.IndexByteString", "internal/bytealg.IndexString"], unfollowed := true, recurses := true, named := ["unicode/utf8.first", "unicode/utf8.acceptRanges", "internal/bytealg.MaxLen"], loops := true, apart := false, laid := [("unicode/utf8.acceptRanges", laid_unicode_utf8_acceptRanges), ("unicode/utf8.first", laid_unicode_utf8_first)], narrowed := true }
def SandboxInputsUptoSaid : Prop := sandboxInputsUptoRow.holds Tryz.pinned (OpenSpec.upto sandboxInputsSpec)

/-- 'pipelinelaw53.SandboxCaches', WHERE WHAT IT READS IS OF BULK AT MOST 1048576: true; the input reads as it did. -/
def sandboxCachesUptoRow : OpenClaim := { program := "ytghahghbahcpfaagreatdoor", sum := "a35222194bfd142c35b563a77eca59e06bacd64dc1f18494fcae0e96d9bd9865", func := "pipeline/pipelinelaw53.SandboxCaches", spec := "sandboxCaches", inPlace := ["internal/abi.NoEscape", "internal/bytealg.CountString", "internal/bytealg.IndexByteString", "internal/bytealg.IndexString"], unfollowed := true, recurses := true, named := ["unicode/utf8.first", "unicode/utf8.acceptRanges", "internal/bytealg.MaxLen"], loops := true, apart := false, laid := [("unicode/utf8.acceptRanges", laid_unicode_utf8_acceptRanges), ("unicode/utf8.first", laid_unicode_utf8_first)], narrowed := true }
def SandboxCachesUptoSaid : Prop := sandboxCachesUptoRow.holds Tryz.pinned (OpenSpec.upto sandboxCachesSpec)

/-- 'pipelinelaw53.SandboxLogs', WHERE WHAT IT READS IS OF BULK AT MOST 1048576: true; the input reads as it did. -/
def sandboxLogsUptoRow : OpenClaim := { program := "ytghahghbahcpfaagreatdoor", sum := "a35222194bfd142c35b563a77eca59e06bacd64dc1f18494fcae0e96d9bd9865", func := "pipeline/pipelinelaw53.SandboxLogs", spec := "sandboxLogs", inPlace := ["internal/abi.NoEscape", "internal/bytealg.CountString", "internal/bytealg.IndexByteString", "internal/bytealg.IndexString"], unfollowed := true, recurses := true, named := ["unicode/utf8.first", "unicode/utf8.acceptRanges", "internal/bytealg.MaxLen"], apart := false, laid := [("unicode/utf8.acceptRanges", laid_unicode_utf8_acceptRanges), ("unicode/utf8.first", laid_unicode_utf8_first)], narrowed := true }
def SandboxLogsUptoSaid : Prop := sandboxLogsUptoRow.holds Tryz.pinned (OpenSpec.upto sandboxLogsSpec)

end Rows
end Go.Proofs.YtghahghbahcpfaaGreatDoor
