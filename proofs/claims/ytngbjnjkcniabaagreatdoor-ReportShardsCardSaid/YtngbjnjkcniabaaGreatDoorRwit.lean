/- What the rows of chapter 36 share: what the listed variables' readings say of the memory; a world in which all are laid. -/
import Derived.Test.YtngbjnjkcniabaaGreatDoorRlives
import Derived.Test.YtngbjnjkcniabaaGreatDoorRopen
import Derived.ProofKit
import Derived.OpenShut
import Derived.Lib.LaidIn
import Derived.Lib.LaidU8
import Derived.Lay
import Derived.LaidLaws
import Derived.Deep.DeepHandedRow
import Derived.Deep.DeepWitnessRowRef
import Derived.SizedLaws
namespace Go.Proofs.YtngbjnjkcniabaaGreatDoor
open Go.ChangeShapes Go.WideShapes Go.ChangeAt Go.RowKit Go.Lib

theorem own : ownKnob Tryz.prog.godebug = none := by kernel_rfl
theorem laidOut : laidOutB Tryz.prog = true := by kernel_rfl

theorem lt_of_cell {W : World} {g : Nat} {v : Value} (h : W.cell? ⟨g, 0, none⟩ = some v) : g < W.heap.size := by
  unfold World.cell? at h
  cases hb : W.heap[g]? with
  | none => simp only [hb] at h; cases h
  | some o => exact (Array.getElem?_eq_some_iff.1 hb).1
theorem maxLen_at {W : World} (hsh : W.ShapedOpen Tryz.prog) : ∃ m, W.cell? ⟨0, 0, none⟩ = some (.int .i64 m) := Tryz.laysM146.s1_3 W hsh

theorem pow10At_of_reads {w : World} (h : VarReads Tryz.prog w "internal/strconv.uint64pow10" Rows.laid_internal_strconv_uint64pow10) : Pow10At w := by
  refine tabBelow_of_tabIs ?_
  obtain ⟨g, t, cs, fuel, p, hg, hty, hvar, hd⟩ := h
  have hn : Tryz.prog.globalNamed "internal/strconv.uint64pow10" = some 3 := by kernel_rfl
  have hy : (Tryz.prog.globals[3]?).map (·.type) = some 167 := by kernel_rfl
  obtain rfl := Option.some.inj (hn.symm.trans hg)
  obtain rfl := Option.some.inj (hy.symm.trans hty)
  unfold TabIs
  rw [hvar, ← cells_of_tab (zs := pow10Tab) (k := .u64) Tryz.underlying167 (by kernel_rfl) (by kernel_rfl) (by kernel_rfl) hd]
theorem er_of_reads {w : World} (h : VarReads Tryz.prog w "strconv.ErrRange" Rows.laid_strconv_ErrRange) : ∃ ev : Value, w.cell? ⟨2, 0, none⟩ = some ev ∧ (ev = .nilIface ∨ ∃ te pe, ev = .iface te pe) := by
  obtain ⟨g, t, cs, fuel, p, hg, hty, hvar, hd⟩ := h
  have hn : Tryz.prog.globalNamed "strconv.ErrRange" = some 2 := by kernel_rfl
  have hy : (Tryz.prog.globals[2]?).map (·.type) = some 63 := by kernel_rfl
  obtain rfl := Option.some.inj (hn.symm.trans hg)
  obtain rfl := Option.some.inj (hy.symm.trans hty)
  obtain ⟨f1, u, v, hcs, _, _⟩ := iface_of_trod Tryz.underlying63 hd
  refine ⟨.iface u v, ?_, .inr ⟨u, v, rfl⟩⟩
  rw [World.var?_cell hg hvar, ← Array.getElem?_toList, hcs]
  rfl
theorem base36_of {W : World} (hsh : W.ShapedOpen Tryz.prog) (hp : VarReads Tryz.prog W "internal/strconv.uint64pow10" Rows.laid_internal_strconv_uint64pow10) (he : VarReads Tryz.prog W "strconv.ErrRange" Rows.laid_strconv_ErrRange) : Base36 W := by
  obtain ⟨m, hm⟩ := maxLen_at hsh
  obtain ⟨ev, h1, h2⟩ := er_of_reads he
  exact ⟨⟨m, hm⟩, lt_of_cell hm, ⟨ev, h1, h2⟩, lt_of_cell h1, pow10At_of_reads hp⟩

/-- the settled world, the listed variables laid -/
noncomputable abbrev laidWorld (os : Os) : World := World.laidAll Tryz.prog os Rows.reportStatusesRow.laid
theorem laid_met (os : Os) (args : Array Value) : laidMet Tryz.prog Rows.reportStatusesRow.laid ((laidWorld os).forCall (fun _ _ => 0) ⟨#[], args, []⟩).memory :=
  laidMet_laidAll args (by kernel_rfl) (by kernel_rfl)
end Go.Proofs.YtngbjnjkcniabaaGreatDoor
