/- What the rows share: a world in which the two listed tables hold what is laid; MaxLen holds an integer in every world that fits. -/
import Derived.Test.YtfegmmafcopbpaaGreatDoorGopen
import Derived.Test.YtfegmmafcopbpaaGreatDoorShelf
import Derived.SliceStrings
import Derived.ProofKit
import Derived.OpenShut
import Derived.Lib.LaidIn
import Derived.Lib.LaidU8
import Derived.Deep.DeepHandedRow
import Derived.Deep.DeepWitnessRowRef
import Derived.SizedLaws
namespace Go.Proofs.YtfegmmafcopbpaaGreatDoor
open Go.ChangeShapes Go.WideShapes Go.ChangeAt Go.RowKit Go.Lib

theorem own : ownKnob Tryz.prog.godebug = none := by kernel_rfl
theorem laidOut : laidOutB Tryz.prog = true := by kernel_rfl

/-- the settled world, the two tables laid -/
noncomputable def laidWorld (os : Os) : World :=
  let w0 := World.holding Tryz.prog os ⟨#[], #[], []⟩
  let put (h : Array Obj) (g : Nat) (cs : Array Value) : Array Obj := h.modify g fun
    | .cells _ t frozen => .cells cs t frozen
    | o => o
  let h1 := put w0.heap 1 (Lib.firstTab.map fun z => Value.int .u8 z).toArray
  let h2 := put h1 2 ((List.range 16).flatMap fun i => [Value.int .u8 (Lib.accLo i), Value.int .u8 (Lib.accHi i)]).toArray
  { w0 with heap := h2 }

theorem laid_met (os : Os) (args : Array Value) : laidMet Tryz.prog Rows.graphOrdersRow.laid ((laidWorld os).forCall (fun _ _ => 0) ⟨#[], args, []⟩).memory :=
  (LaidIn.of_run (l := Rows.graphOrdersRow.laid) [1, 2] 8 (by kernel_rfl) (by kernel_rfl) (by kernel_rfl) (by kernel_rfl)).met

theorem maxLen_at {W : World} (hsh : W.ShapedOpen Tryz.prog) : ∃ m, W.cell? ⟨0, 0, none⟩ = some (.int .i64 m) := Tryz.laysM146.s1_3 W hsh
theorem maxLen_lt {W : World} {m : Int} (h : W.cell? ⟨0, 0, none⟩ = some (.int .i64 m)) : 0 < W.heap.size := by
  unfold World.cell? at h
  cases hb : W.heap[0]? with
  | none => simp only [hb] at h; cases h
  | some o => exact (Array.getElem?_eq_some_iff.1 hb).1

theorem u8_nat {z : Int} (h : (Lit.int .u8 z).wf = true) : ∃ k : Nat, z = (k : Nat) ∧ k ≤ 255 := by
  have h1 : 0 ≤ z ∧ z ≤ 255 := by
    unfold Lit.wf at h
    simpa [IntKind.min, IntKind.max, IntKind.bits, IntKind.signed] using h
  exact ⟨z.toNat, by omega, by omega⟩
set_option maxRecDepth 100000 in
theorem open_strs {H : Type} {enc : TypeId × Value → H} {W : World} {base : Nat} {v : Value} {d : DataW H} {p : List MemPlace} (hv : Value.okWide Tryz.prog W .any base 35 v) (h : DataW.Trod enc Tryz.prog W 0 (fun _ => true) true 35 v d p) :
    ∃ ss : List ByteArray, StrsAt W v ss ∧ ∀ s ∈ ss, s.size ≤ 9223372036854775807 := by
  obtain ⟨ao, len, cap, rfl⟩ := okWide_slice Tryz.underlying35 hv
  obtain ⟨fuel, hf⟩ := h
  rcases open_strings Tryz.underlying35 Tryz.underlying9 (by kernel_rfl) hf with ⟨hcs, _⟩ | ⟨a, len', cap', ss, hcs, _, hl, hm, hz, _, hcell, hws⟩
  · simp [Value.cells] at hcs
    obtain ⟨rfl, rfl, rfl⟩ := hcs
    exact ⟨[], .inl ⟨_, _, rfl, rfl⟩, fun s h => by cases h⟩
  · simp [Value.cells] at hcs
    obtain ⟨rfl, rfl, rfl⟩ := hcs
    simp only [if_true] at hz
    have hlen : (ss.take len).length = len := by simp; omega
    have key : ∀ i, i < len → W.cell? (a.add i) = some (.string ((ss.take len).getD i ByteArray.empty)) := by
      intro i hi
      rw [hcell i (by omega)]
      simp [List.getD, hi]
    by_cases h0 : len = 0
    · subst h0
      exact ⟨[], .inl ⟨_, _, rfl, rfl⟩, fun s h => by cases h⟩
    · obtain ⟨b, off, sp⟩ := a
      have hc0 := key 0 (by omega)
      rw [show (⟨b, off, sp⟩ : Addr).add 0 = ⟨b, off, sp⟩ from rfl] at hc0
      have hb : b < W.heap.size := by
        unfold World.cell? at hc0
        cases h : W.heap[b]? with
        | none => simp only [h] at hc0; cases hc0
        | some o => exact (Array.getElem?_eq_some_iff.1 h).1
      have hsp : sp = none := by
        unfold World.cell? at hc0
        split at hc0
        · split at hc0
          · cases hc0
          · rename_i h; simpa using h
        · cases hc0
      subst hsp
      refine ⟨ss.take len, .inr ⟨b, off, cap, by rw [hlen], hb, by rw [hlen]; omega, fun i hi => ?_⟩, fun s hs => hws s (List.mem_of_mem_take hs)⟩
      rw [← key i (by omega)]
      congr 1
      unfold Addr.add
      split
      · rename_i h; subst h; rfl
      · rfl
end Go.Proofs.YtfegmmafcopbpaaGreatDoor
