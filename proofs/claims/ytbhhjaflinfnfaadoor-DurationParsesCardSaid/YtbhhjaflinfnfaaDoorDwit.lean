/- What the rows of chapter 05 share: what the listed tables' readings say of the memory; a world in which all six are laid; an array of numbers opened. -/
import Derived.Test.YtbhhjaflinfnfaaDoorDlives
import Derived.ProofKit
import Derived.OpenShut
import Derived.Lib.LaidIn
import Derived.Lib.LaidU8
import Derived.Deep.DeepHandedRow
import Derived.Deep.DeepWitnessRowRef
import Derived.SizedLaws
namespace Go.Proofs.YtbhhjaflinfnfaaDoor
open Go.ChangeShapes Go.WideShapes Go.ChangeAt Go.RowKit Go.Lib

theorem own : ownKnob Tryd.prog.godebug = none := by kernel_rfl
theorem laidOut : laidOutB Tryd.prog = true := by kernel_rfl

section
variable {H : Type} {enc : TypeId × Value → H} {P : Program} {w : World} {base : Nat} {sp : Nat → Bool} {held : Bool}
theorem three_of {l : List Value} (h : l.length = 3) : ∃ a b c, l = [a, b, c] := by
  match l, h with
  | [a, b, c], _ => exact ⟨a, b, c, rfl⟩

theorem field_of {fs : Array Field} {n : Nat} {cs : List Value} {xs : List (DataW H × List MemPlace)} {i t : Nat} (hl : xs.length = fs.size)
    (hf : ∀ (i : Nat) (f : Field), fs[i]? = some f → DataW.trod enc P w base sp held n f.type ((cs.drop f.offset).take (P.cellsOf f.type)) = xs[i]?)
    (hfd : (fs[i]?).map (fun f => (f.type, f.offset)) = some (t, i)) (ht : P.cellsOf t = 1) : ∃ x, xs[i]? = some x ∧ DataW.trod enc P w base sp held n t ((cs.drop i).take 1) = some x := by
  cases hfi : fs[i]? with
  | none => rw [hfi] at hfd; cases hfd
  | some f =>
    rw [hfi] at hfd
    simp only [Option.map_some, Option.some.injEq, Prod.mk.injEq] at hfd
    have h1 := hf i f hfi
    rw [hfd.1, hfd.2, ht] at h1
    have hi : i < xs.length := by rw [hl]; exact (Array.getElem?_eq_some_iff.1 hfi).1
    exact ⟨xs[i], List.getElem?_eq_getElem hi, h1.trans (List.getElem?_eq_getElem hi)⟩

/-- a struct of a text and two numbers that reads as these holds them -/
theorem unit_of {e : TypeId} {fs : Array Field} (he : P.underlying e = some (.struct fs)) (hC : P.cellsOf e = 3) (h0 : (fs[0]?).map (fun f => (f.type, f.offset)) = some (9, 0)) (h1 : (fs[1]?).map (fun f => (f.type, f.offset)) = some (3, 1)) (h2 : (fs[2]?).map (fun f => (f.type, f.offset)) = some (3, 2))
    (c9 : P.cellsOf 9 = 1) (c3 : P.cellsOf 3 = 1) (u9 : P.underlying 9 = some .string) (u3 : P.underlying 3 = some (.int .i64))
    {n : Nat} {cs : List Value} {l : List UInt8} {a b : Int} {p : List MemPlace} (hx : DataW.trod enc P w base sp held n e cs = some (.agg [.lit (.string l), .lit (.int .i64 a), .lit (.int .i64 b)], p)) :
    cs = [.string ⟨l.toArray⟩, .int .i64 a, .int .i64 b] := by
  obtain ⟨xs, m, _, hxe, hlen, hxl, hf⟩ := DataW.trod_struct he hx
  rw [hC] at hlen
  obtain ⟨v0, v1, v2, rfl⟩ := three_of hlen
  obtain ⟨x0, q0, g0⟩ := field_of hxl hf h0 c9
  obtain ⟨x1, q1, g1⟩ := field_of hxl hf h1 c3
  obtain ⟨x2, q2, g2⟩ := field_of hxl hf h2 c3
  obtain ⟨s, e0, rfl, _⟩ := DataW.trod_string u9 g0
  obtain ⟨k1, e1, rfl, _⟩ := DataW.trod_int u3 g1
  obtain ⟨k2, e2, rfl, _⟩ := DataW.trod_int u3 g2
  have hds := congrArg Prod.fst hxe
  simp only [DataW.agg.injEq] at hds
  have r0 : (xs.map (·.1))[0]? = some (.lit (.string s.data.toList)) := by simp [q0]
  have r1 : (xs.map (·.1))[1]? = some (.lit (.int .i64 k1)) := by simp [q1]
  have r2 : (xs.map (·.1))[2]? = some (.lit (.int .i64 k2)) := by simp [q2]
  rw [← hds] at r0 r1 r2
  simp at r0 r1 r2 e0 e1 e2
  rw [e0, e1, e2, str_lit r0.symm, r1, r2]

theorem okWide_arr' {r : Reach} {base n : Nat} {t e : TypeId} {v : Value} (ht : P.underlying t = some (.array n e)) (h : Value.okWide P w r base t v) : ∃ cs, v = .agg cs ∧ cs.size = P.cellsOf t := by
  simp only [Value.okWide, ht] at h
  obtain ⟨cs, h1, h2, _⟩ := h
  exact ⟨cs, h1, h2⟩

theorem open_ints_arr {r : Reach} {b0 n : Nat} {t e : TypeId} {k : IntKind} {v : Value} {d : DataW H} {p : List MemPlace} (ht : P.underlying t = some (.array n e)) (hC : P.cellsOf t = n) (c3 : P.cellsOf e = 1) (u3 : P.underlying e = some (.int k))
    (hv : Value.okWide P w r b0 t v) (h : DataW.Trod enc P w 0 (fun _ => true) true t v d p) : ∃ ks : List Int, ks.length = n ∧ v = .agg (ks.map (Value.int k)).toArray ∧ ∀ z ∈ ks, (Lit.int k z).wf = true := by
  obtain ⟨cs, rfl, hsz⟩ := okWide_arr' ht hv
  obtain ⟨fuel, hf⟩ := h
  cases fuel with
  | zero => simp [DataW.trod] at hf
  | succ fuel =>
    simp only [DataW.trod, ht, c3, hC, Nat.mul_one] at hf
    split at hf
    · rename_i hl
      obtain ⟨xs, hm, hx⟩ := Option.map_eq_some_iff.1 hf
      have hall : ∀ i, i < n → ∃ z : Int, cs.toList[i]? = some (.int k z) ∧ (Lit.int k z).wf = true := by
        intro i hi
        obtain ⟨b, hb, hfb⟩ := mapM_at hm i i (by simp [hi])
        obtain ⟨z, hc, _, hw⟩ := DataW.trod_int u3 hfb
        refine ⟨z, ?_, hw⟩
        have := congrArg (·[0]?) hc
        simpa [List.getElem?_take, List.getElem?_drop, Value.cells] using this
      have hln : cs.toList.length = n := by simpa [Value.cells] using hl
      have key : ∀ l : List Value, (∀ i, i < l.length → ∃ z : Int, l[i]? = some (.int k z) ∧ (Lit.int k z).wf = true) → ∃ ks : List Int, ks.length = l.length ∧ l = ks.map (Value.int k) ∧ ∀ z ∈ ks, (Lit.int k z).wf = true := by
        intro l
        induction l with
        | nil => intro _; exact ⟨[], rfl, rfl, by simp⟩
        | cons v l ih =>
          intro h
          obtain ⟨z, hz, hw⟩ := h 0 (by simp)
          obtain ⟨ks, h1, h2, h3⟩ := ih (fun i hi => by simpa using h (i + 1) (by simp; omega))
          simp at hz
          exact ⟨z :: ks, by simp [h1], by simp [hz, ← h2], by
            intro y hy
            rcases List.mem_cons.1 hy with rfl | hy
            · exact hw
            · exact h3 y hy⟩
      obtain ⟨ks, h1, h2, h3⟩ := key cs.toList (fun i hi => hall i (by omega))
      refine ⟨ks, by omega, ?_, h3⟩
      rw [← h2]
    · cases hf
end

theorem isI_wf {n : Int} (w : (Lit.int .i64 n).wf = true) : isI n := by
  have : IntKind.i64.min ≤ n ∧ n ≤ IntKind.i64.max := by simpa [Lit.wf] using w
  simpa [isI, IntKind.min, IntKind.max, IntKind.signed, IntKind.bits] using this

theorem unitsAt_of_reads {w : World} (h : VarReads Tryd.prog w "pipeline/duration.units" Rows.laid_pipeline_duration_units) : UnitsAt w := by
  obtain ⟨g, t, cs, fuel, p, hg, hty, hvar, hd⟩ := h
  obtain rfl : 0 = g := Option.some.inj ((show Tryd.prog.globalNamed "pipeline/duration.units" = some 0 by kernel_rfl).symm.trans hg)
  obtain rfl : 44 = t := Option.some.inj ((show (Tryd.prog.globals[0]?).map (·.type) = some 44 by kernel_rfl).symm.trans hty)
  have c43 : Tryd.prog.cellsOf 43 = 3 := by kernel_rfl
  have hat : ∀ i, i < 5 → ∃ l a b, (match Rows.laid_pipeline_duration_units (H := Unit) with | .agg ds => ds[i]? | _ => none) = some (.agg [.lit (.string l), .lit (.int .i64 a), .lit (.int .i64 b)]) ∧ (cs.toList.drop (i * 3)).take 3 = [.string ⟨l.toArray⟩, .int .i64 a, .int .i64 b] := by
    intro i hi
    obtain ⟨f', d, q, hdi, he⟩ := array_elem (n := 5) (e := 43) Tryd.underlying44 hd i hi
    rw [c43] at he
    have hi5 : i = 0 ∨ i = 1 ∨ i = 2 ∨ i = 3 ∨ i = 4 := by omega
    rcases hi5 with rfl | rfl | rfl | rfl | rfl <;> (
      obtain rfl := Option.some.inj hdi.symm
      exact ⟨_, _, _, rfl, unit_of Tryd.underlying43 c43 (by kernel_rfl) (by kernel_rfl) (by kernel_rfl) (by kernel_rfl) (by kernel_rfl) Tryd.underlying9 Tryd.underlying3 he⟩)
  have hcell : ∀ i, i < 5 → ∀ (l : List UInt8) (a b : Int), (cs.toList.drop (i * 3)).take 3 = [.string ⟨l.toArray⟩, .int .i64 a, .int .i64 b] →
      w.cell? ⟨0, i * 3, none⟩ = some (.string ⟨l.toArray⟩) ∧ w.cell? ⟨0, i * 3 + 1, none⟩ = some (.int .i64 a) ∧ w.cell? ⟨0, i * 3 + 2, none⟩ = some (.int .i64 b) := by
    intro i hi l a b he
    have key : ∀ j v, j < 3 → ([.string ⟨l.toArray⟩, .int .i64 a, .int .i64 b] : List Value)[j]? = some v → w.cell? ⟨0, i * 3 + j, none⟩ = some v := by
      intro j v hj hv
      rw [World.var?_cell hg hvar, ← Array.getElem?_toList]
      rw [← he, List.getElem?_take, if_pos hj, List.getElem?_drop] at hv
      exact hv
    exact ⟨key 0 _ (by decide) rfl, key 1 _ (by decide) rfl, key 2 _ (by decide) rfl⟩
  have all : ∀ i, i < 5 → w.cell? ⟨0, i * 3, none⟩ = some (.string (uN i)) ∧ w.cell? ⟨0, i * 3 + 1, none⟩ = some (.int .i64 (uMs i : Nat)) ∧ w.cell? ⟨0, i * 3 + 2, none⟩ = some (.int .i64 (uMost i : Nat)) := by
    intro i hi
    obtain ⟨l, a, b, h1, h2⟩ := hat i hi
    obtain ⟨c0, c1, c2⟩ := hcell i hi l a b h2
    have hi5 : i = 0 ∨ i = 1 ∨ i = 2 ∨ i = 3 ∨ i = 4 := by omega
    rcases hi5 with rfl | rfl | rfl | rfl | rfl <;> (
      simp [Rows.laid_pipeline_duration_units] at h1
      obtain ⟨rfl, rfl, rfl⟩ := h1
      exact ⟨c0, c1, c2⟩)
  refine ⟨?_, all⟩
  have h := (all 0 (by decide)).1
  unfold World.cell? at h
  cases hb : w.heap[0]? with
  | none => simp only [hb] at h; cases h
  | some o => exact (Array.getElem?_eq_some_iff.1 hb).1

theorem pow10At_of_reads {w : World} (h : VarReads Tryd.prog w "internal/strconv.uint64pow10" Rows.laid_internal_strconv_uint64pow10) : Pow10At w := by
  refine tabBelow_of_tabIs ?_
  obtain ⟨g, t, cs, fuel, p, hg, hty, hvar, hd⟩ := h
  have hn : Tryd.prog.globalNamed "internal/strconv.uint64pow10" = some 2 := by kernel_rfl
  have hy : (Tryd.prog.globals[2]?).map (·.type) = some 82 := by kernel_rfl
  obtain rfl := Option.some.inj (hn.symm.trans hg)
  obtain rfl := Option.some.inj (hy.symm.trans hty)
  unfold TabIs
  rw [hvar, ← cells_of_tab (zs := pow10Tab) (k := .u64) Tryd.underlying82 (by kernel_rfl) (by kernel_rfl) (by kernel_rfl) hd]

/-- the settled world, the six tables laid -/
noncomputable def laidWorld (os : Os) : World :=
  let w0 := World.holding Tryd.prog os ⟨#[], #[], []⟩
  let put (h : Array Obj) (g : Nat) (cs : Array Value) : Array Obj := h.modify g fun
    | .cells _ t frozen => .cells cs t frozen
    | o => o
  let ints (k : IntKind) (l : List Int) : Array Value := (l.map fun z => Value.int k z).toArray
  let h1 := put w0.heap 3 (ints .u8 Lib.firstTab)
  let h2 := put h1 4 ((List.range 16).flatMap fun i => [Value.int .u8 (Lib.accLo i), Value.int .u8 (Lib.accHi i)]).toArray
  let h3 := put h2 2 (ints .u64 Lib.pow10Tab)
  let h4 := put h3 0 ((List.range 5).flatMap fun i => [Value.string (uN i), Value.int .i64 (uMs i), Value.int .i64 (uMost i)]).toArray
  let h5 := put h4 5 (ints .u8 [0, 1, 28, 2, 29, 14, 24, 3, 30, 22, 20, 15, 25, 17, 4, 8, 31, 27, 13, 23, 21, 19, 16, 7, 26, 12, 18, 6, 11, 5, 10, 9])
  let h6 := put h5 6 (ints .u8 [0, 1, 56, 2, 57, 49, 28, 3, 61, 58, 42, 50, 38, 29, 17, 4, 62, 47, 59, 36, 45, 43, 51, 22, 53, 39, 33, 30, 24, 18, 12, 5, 63, 55, 48, 27, 60, 41, 37, 16, 46, 35, 44, 21, 52, 32, 23, 11, 54, 26, 40, 15, 34, 20, 31, 10, 25, 14, 19, 9, 13, 8, 7, 6])
  { w0 with heap := h6 }

theorem laid_met (os : Os) (args : Array Value) : laidMet Tryd.prog Rows.durationAddsRow.laid ((laidWorld os).forCall (fun _ _ => 0) ⟨#[], args, []⟩).memory :=
  (LaidIn.of_run (l := Rows.durationAddsRow.laid) [3, 4, 2, 0, 5, 6] 8 (by kernel_rfl) (by kernel_rfl) (by kernel_rfl) (by kernel_rfl)).met
end Go.Proofs.YtbhhjaflinfnfaaDoor
