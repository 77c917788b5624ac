/- What the rows of chapter 07 share: arguments opened; what the listed variables' readings say of the memory; a world in which all are laid. -/
import Derived.Test.YtbndgmbjfgmdnaaGreatDoorVl2
import Derived.Test.YtbndgmbjfgmdnaaGreatDoorVo2m
import Derived.ProofKit
import Derived.OpenShut
import Derived.Lib.LaidIn
import Derived.Lib.LaidU8
import Derived.Lay
import Derived.LaidLaws
import Derived.Deep.DeepHandedRow
import Derived.Deep.DeepWitnessRowRef
import Derived.SizedLaws
namespace Go.Proofs.YtbndgmbjfgmdnaaGreatDoor
open Go.ChangeShapes Go.WideShapes Go.ChangeAt Go.RowKit Go.Lib

theorem own : ownKnob Tryz.prog.godebug = none := by kernel_rfl
theorem laidOut : laidOutB Tryz.prog = true := by kernel_rfl
theorem vtypes : VTypes Tryz.prog 25 22 23 :=
  ⟨⟨_, Tryz.underlying25, by kernel_rfl, by kernel_rfl, by kernel_rfl, by kernel_rfl, by kernel_rfl, by kernel_rfl⟩, ⟨by kernel_rfl, by kernel_rfl, by kernel_rfl, by kernel_rfl, by kernel_rfl, by kernel_rfl⟩, Tryz.underlying3, Tryz.underlying4, Tryz.underlying9, Tryz.underlying22, Tryz.underlying23⟩
theorem vartypes : VarTypes Tryz.prog 55 25 := ⟨⟨_, Tryz.underlying55, by kernel_rfl, by kernel_rfl⟩, by kernel_rfl⟩
set_option maxRecDepth 100000 in
theorem open_val {H : Type} {enc : TypeId × Value → H} {W : World} {base : Nat} {v : Value} {d : DataW H} {p : List MemPlace} (hv : Value.okWide Tryz.prog W .any base 25 v) (h : DataW.Trod enc Tryz.prog W 0 (fun _ => true) true 25 v d p) :
    ∃ t : VT, VAt W v t ∧ t.wf ∧ Reads Tryz.prog 25 d t := by
  obtain ⟨cs, rfl, _⟩ := okWide_struct Tryz.underlying25 hv
  obtain ⟨fuel, hf⟩ := h
  obtain ⟨t, ⟨hc, hw⟩, hr⟩ := value_of2 vtypes (by kernel_rfl) (by kernel_rfl) fuel _ _ hf
  exact ⟨t, ⟨cs.toList, by simp, hc⟩, hw, hr⟩
set_option maxRecDepth 100000 in
theorem open_vars {H : Type} {enc : TypeId × Value → H} {W : World} {base : Nat} {v : Value} {d : DataW H} {p : List MemPlace} (hv : Value.okWide Tryz.prog W .any base 35 v) (h : DataW.Trod enc Tryz.prog W 0 (fun _ => true) true 35 v d p) :
    ∃ L : List VR, EVar.Row (fun b => b < W.heap.size) W L v ∧ L.length ≤ 9223372036854775807 ∧ (∀ q ∈ L, q.1.size ≤ 9223372036854775807) ∧ (∀ q ∈ L, q.2.wf) := by
  obtain ⟨ao, len, cap, rfl⟩ := okWide_slice Tryz.underlying35 hv
  obtain ⟨fuel, hf⟩ := h
  obtain ⟨L, h1, h2, h3, h4, _⟩ := vars_of2 vtypes vartypes Tryz.underlying35 (by kernel_rfl) (by kernel_rfl) (show DataW.trod enc Tryz.prog W 0 (fun _ => true) true fuel 35 [.slice ao len cap] = some (d, p) from hf)
  exact ⟨L, h1, h2, h3, h4⟩
theorem u8_nat {z : Int} (h : (Lit.int .u8 z).wf = true) : ∃ k : Nat, z = (k : Nat) ∧ k ≤ 255 := by
  have h1 : 0 ≤ z ∧ z ≤ 255 := by
    unfold Lit.wf at h
    simpa [IntKind.min, IntKind.max, IntKind.bits, IntKind.signed] using h
  exact ⟨z.toNat, by omega, by omega⟩
theorem pow_of_reads {w : World} (h : VarReads Tryz.prog w "internal/strconv.uint64pow10" Rows.laid_internal_strconv_uint64pow10) : Pow w := by
  obtain ⟨g, t, cs, fuel, p, hg, hty, hvar, hd⟩ := h
  have hn : Tryz.prog.globalNamed "internal/strconv.uint64pow10" = some 0 := by kernel_rfl
  have hy : (Tryz.prog.globals[0]?).map (·.type) = some 153 := by kernel_rfl
  obtain rfl := Option.some.inj (hn.symm.trans hg)
  obtain rfl := Option.some.inj (hy.symm.trans hty)
  unfold Pow TabIs
  rw [hvar, ← cells_of_tab (zs := pow10Tab) (k := .u64) Tryz.underlying153 (by kernel_rfl) (by kernel_rfl) (by kernel_rfl) hd]
theorem bulk_part {H : Type} {d : DataW H} {l : List (DataW H)} (h : d ∈ l) : Rows.uptoBulk d ≤ Rows.uptoBulkAll l := by
  induction l with
  | nil => cases h
  | cons x r ih =>
    simp only [Rows.uptoBulkAll]
    rcases List.mem_cons.1 h with rfl | e
    · omega
    · have := ih e; omega
/-- the bound on what is read bounds the literal -/
theorem small_lit {H : Type} {ds : List (DataW H)} (hk : Rows.uptoSmall H ds = true) {d : DataW H} (hd : d ∈ ds) {t : VT} (hr : t.bulk ≤ Rows.uptoBulk d) (hv : validF t = 0) : (litF t).length ≤ 100000000000 := by
  have h1 := lit_upto hv
  have h2 := bulk_part hd
  have h3 : Rows.uptoBulkAll ds ≤ 1048576 := of_decide_eq_true hk
  omega

/-- the settled world, the listed variables laid -/
noncomputable abbrev laidWorld (os : Os) : World := World.laidAll Tryz.prog os Rows.valueValidRow.laid
theorem laid_met (os : Os) (args : Array Value) : laidMet Tryz.prog Rows.valueValidRow.laid ((laidWorld os).forCall (fun _ _ => 0) ⟨#[], args, []⟩).memory :=
  laidMet_laidAll args (by kernel_rfl) (by kernel_rfl)
end Go.Proofs.YtbndgmbjfgmdnaaGreatDoor
