/- Arguments opened, by kinds: structs of scalars, lists. No program in sight. -/
import Derived.Test.YtghahghbahcpfaaGreatDoorVa2
import Derived.SliceStrings
import Derived.ProofKit
import Derived.OpenShut
import Derived.Deep.Slices
import Derived.Deep.Fields
import Derived.Test.YtghahghbahcpfaaGreatDoorVs10
namespace Go.Proofs.YtghahghbahcpfaaGreatDoor
open Go.ChangeShapes Go.WideShapes Go.Deep Go.RowKit

section
variable {H : Type} {enc : TypeId × Value → H} {P : Program} {w : World} {α : Type}
/-- how a value reads at a type -/
abbrev Trd (enc : TypeId × Value → H) (P : Program) (w : World) (n : Nat) (e : TypeId) (cs : List Value) : Option (DataW H × List MemPlace) := DataW.trod enc P w 0 (fun _ => true) true n e cs
/-- what reads at a type is a thing of a kind -/
def OpensK (enc : TypeId × Value → H) (P : Program) (w : World) (E : ElemK α) (ok : α → Prop) (e : TypeId) : Prop :=
  ∀ (n : Nat) (cs : List Value) (x : DataW H × List MemPlace), Trd enc P w n e cs = some x → ∃ a : α, E.R (fun b => b < w.heap.size) w a cs ∧ ok a
theorem field_atO {fs : Array Field} {n : Nat} {cs : List Value} {xs : List (DataW H × List MemPlace)} (i t o : Nat) {c : Nat} (hl : xs.length = fs.size)
    (hf : ∀ (i : Nat) (f : Field), fs[i]? = some f → DataW.trod enc P w 0 (fun _ => true) true n f.type ((cs.drop f.offset).take (P.cellsOf f.type)) = xs[i]?)
    (hfd : (fs[i]?).map (fun f => (f.type, f.offset)) = some (t, o)) (ht : P.cellsOf t = c) : ∃ x, Trd enc P w n t ((cs.drop o).take c) = some x := by
  cases hfi : fs[i]? with
  | none => rw [hfi] at hfd; cases hfd
  | some f =>
    rw [hfi] at hfd
    simp only [Option.map_some, Option.some.injEq, Prod.mk.injEq] at hfd
    have h1 := hf i f hfi
    rw [hfd.1, hfd.2, ht] at h1
    have hi : i < xs.length := by rw [hl]; exact (Array.getElem?_eq_some_iff.1 hfi).1
    exact ⟨xs[i], h1.trans (List.getElem?_eq_getElem hi)⟩
theorem list_ofO {R : Nat → α → Prop} : ∀ n : Nat, (∀ i, i < n → ∃ q, R i q) → ∃ qs : List α, qs.length = n ∧ ∀ (i : Nat) (h : i < qs.length), R i qs[i]
  | 0, _ => ⟨[], rfl, fun i h => by cases h⟩
  | n + 1, hR => by
    obtain ⟨qs, hl, hq⟩ := list_ofO n fun i hi => hR i (by omega)
    obtain ⟨q, hq'⟩ := hR n (by omega)
    refine ⟨qs ++ [q], by simp [hl], fun i h => ?_⟩
    by_cases hi : i < qs.length
    · rw [List.getElem_append_left hi]; exact hq i hi
    · have : i = n := by simp at h; omega
      subst this
      rw [List.getElem_append_right (by omega)]
      simp [hl]
      exact hq'
theorem place_ofO {b off : Nat} {sp : Option Nat} {u : Value} (hc0 : w.cell? ⟨b, off, sp⟩ = some u) : sp = none ∧ b < w.heap.size := by
  constructor
  · unfold World.cell? at hc0
    split at hc0
    · split at hc0
      · cases hc0
      · rename_i h; simpa using h
    · cases hc0
  · unfold World.cell? at hc0
    cases hb : w.heap[b]? with
    | none => simp only [hb] at hc0; cases hc0
    | some o => exact (Array.getElem?_eq_some_iff.1 hb).1
/-- a slice of things of a kind -/
theorem OpensK.row {E : ElemK α} {ok : α → Prop} {t e : TypeId} (hE : OpensK enc P w E ok e) (hC : P.cellsOf e = E.sz) (ht : P.underlying t = some (.slice e)) {n : Nat} {cs : List Value} {x : DataW H × List MemPlace} (h : Trd enc P w n t cs = some x) :
    ∃ v L, cs = [v] ∧ E.Row (fun b => b < w.heap.size) w L v ∧ L.length ≤ 9223372036854775807 ∧ ∀ q ∈ L, ok q := by
  rcases DataW.trod_slice ht h with ⟨hcs, _⟩ | ⟨a, len, cap, elems, rest, m, rfl, hcs, _, _, hlc, hcm, hel2, hi, _, _⟩
  · exact ⟨_, [], hcs, .inl ⟨_, _, rfl, rfl⟩, by simp, fun q hq => by cases hq⟩
  · have hml : len ≤ 9223372036854775807 := Nat.le_trans hlc hcm
    rw [hC] at hi
    obtain ⟨L, hLl, hL⟩ := list_ofO (R := fun i (q : α) => (∃ cs, (∀ j u, cs[j]? = some u → w.cell? ((a.add (i * E.sz)).add j) = some u) ∧ E.R (fun b => b < w.heap.size) w q cs) ∧ ok q) len (fun i him => by
      have h1 := hi i him
      rw [List.getElem?_eq_getElem (by rw [hel2]; exact him)] at h1
      obtain ⟨cs', hc, ht'⟩ := Option.bind_eq_some_iff.1 h1
      obtain ⟨y, hy, hyF⟩ := hE m cs' _ ht'
      obtain ⟨_, hcl, hat⟩ := World.cells?_some hc
      refine ⟨y, ⟨cs', fun j u hj => ?_, hy⟩, hyF⟩
      have hjl := (List.getElem?_eq_some_iff.1 hj).1
      rw [E.len hy] at hjl
      rw [hat j hjl, hj])
    refine ⟨_, L, hcs, ?_, by rw [hLl]; exact hml, fun q hq => ?_⟩
    · by_cases h0 : len = 0
      · subst h0
        exact .inl ⟨_, _, rfl, List.length_eq_zero_iff.1 hLl⟩
      · obtain ⟨b, off, sp⟩ := a
        obtain ⟨⟨cs, hc0, hr0⟩, _⟩ := hL 0 (by omega)
        have hl6 := E.len hr0
        have hp := E.pos
        have hq := hc0 0 (cs[0]'(by omega)) (List.getElem?_eq_getElem _)
        rw [Nat.zero_mul, show ((⟨b, off, sp⟩ : Addr).add 0).add 0 = ⟨b, off, sp⟩ from rfl] at hq
        obtain ⟨rfl, hbl⟩ := place_ofO hq
        refine .inr ⟨b, off, cap, by rw [hLl], hbl, hbl, by rw [hLl]; exact hlc, fun k hk => ?_⟩
        obtain ⟨⟨cs2, h1, h2⟩, _⟩ := hL k hk
        refine ⟨cs2, fun j u hu => ?_, h2⟩
        have := h1 j u hu
        rw [Addr.add_lit, Addr.add_lit] at this
        exact this
    · obtain ⟨j, hj, rfl⟩ := List.getElem_of_mem hq
      exact (hL j hj).2
theorem OpensK.str (u9 : P.underlying 9 = some .string) : OpensK enc P w EStr (fun s => s.size ≤ 9223372036854775807) 9 := fun n cs x h => by
  obtain ⟨s, rfl, _, hs⟩ := DataW.trod_string u9 h
  exact ⟨s, rfl, hs⟩
theorem int_rangeO {n : Int} (h : (Lit.int .i64 n).wf = true) : -9223372036854775808 ≤ n ∧ n ≤ 9223372036854775807 := by
  unfold Lit.wf at h
  simpa [IntKind.min, IntKind.max, IntKind.bits, IntKind.signed] using h
theorem u64_rangeO {n : Int} (h : (Lit.int .u64 n).wf = true) : ∃ k : Nat, n = (k : Nat) ∧ k < 18446744073709551616 := by
  have h1 : 0 ≤ n ∧ n ≤ 18446744073709551615 := by
    unfold Lit.wf at h
    simpa [IntKind.min, IntKind.max, IntKind.bits, IntKind.signed] using h
  exact ⟨n.toNat, by omega, by omega⟩
/-- the cells of a list by their places -/
theorem cs_drop1 {cs : List Value} {o : Nat} {v : Value} (h : (cs.drop o).take 1 = [v]) : cs[o]? = some v := by
  have : ((cs.drop o).take 1)[0]? = some v := by rw [h]; rfl
  rw [List.getElem?_take] at this
  simpa using this
theorem list_at {cs : List Value} {L : List Value} (hl : cs.length = L.length) (h : ∀ (i : Nat) (hi : i < L.length), cs[i]? = some L[i]) : cs = L := by
  apply List.ext_getElem? fun i => ?_
  by_cases hi : i < L.length
  · rw [h i hi, List.getElem?_eq_getElem hi]
  · rw [List.getElem?_eq_none (by omega), List.getElem?_eq_none (by omega)]
end
end Go.Proofs.YtghahghbahcpfaaGreatDoor
/- A job and a view as arguments, opened. -/
namespace Go.Proofs.YtghahghbahcpfaaGreatDoor
open Go.ChangeShapes Go.WideShapes Go.Deep Go.RowKit

section
variable {H : Type} {enc : TypeId × Value → H} {W : World}
theorem Tryz.o_str : OpensK enc Tryz.prog W EStr (fun s => s.size ≤ 9223372036854775807) 9 := .str Tryz.underlying9
theorem field_str {n : Nat} {cs : List Value} {o : Nat} {x : DataW H × List MemPlace} (h : Trd enc Tryz.prog W n 9 ((cs.drop o).take 1) = some x) : ∃ s : ByteArray, cs[o]? = some (.string s) ∧ s.size ≤ 9223372036854775807 := by
  obtain ⟨s, e, _, hs⟩ := DataW.trod_string Tryz.underlying9 h
  exact ⟨s, cs_drop1 e, hs⟩
theorem field_int {t n : Nat} {cs : List Value} {o : Nat} {x : DataW H × List MemPlace} (ht : Tryz.prog.underlying t = some (.int .i64)) (h : Trd enc Tryz.prog W n t ((cs.drop o).take 1) = some x) : ∃ z : Int, cs[o]? = some (.int .i64 z) ∧ i64R z := by
  obtain ⟨z, e, _, hs⟩ := DataW.trod_int ht h
  exact ⟨z, cs_drop1 e, int_rangeO hs⟩
theorem field_dig {n : Nat} {cs : List Value} {o : Nat} {x : DataW H × List MemPlace} (h : Trd enc Tryz.prog W n 58 ((cs.drop o).take 1) = some x) : ∃ k : Nat, cs[o]? = some (.int .u64 (k : Nat)) ∧ k < 18446744073709551616 := by
  obtain ⟨z, e, _, hs⟩ := DataW.trod_int Tryz.underlying58 h
  obtain ⟨k, rfl, hk⟩ := u64_rangeO hs
  exact ⟨k, cs_drop1 e, hk⟩
theorem field_bool {n : Nat} {cs : List Value} {o : Nat} {x : DataW H × List MemPlace} (h : Trd enc Tryz.prog W n 4 ((cs.drop o).take 1) = some x) : ∃ b : Bool, cs[o]? = some (.bool b) := by
  obtain ⟨z, e, _⟩ := DataW.trod_bool Tryz.underlying4 h
  exact ⟨z, cs_drop1 e⟩
theorem Tryz.o_file : OpensK enc Tryz.prog W EFile (fun f => f.path.size ≤ 9223372036854775807 ∧ f.dig < 18446744073709551616) 85 := fun n cs x h => by
  obtain ⟨xs, m, _, _, hlen, hxl, hf⟩ := DataW.trod_struct Tryz.underlying85 h
  obtain ⟨_, g0⟩ := field_atO 0 9 0 hxl hf (by kernel_rfl) (show Tryz.prog.cellsOf 9 = 1 by kernel_rfl)
  obtain ⟨_, g1⟩ := field_atO 1 58 1 hxl hf (by kernel_rfl) (show Tryz.prog.cellsOf 58 = 1 by kernel_rfl)
  obtain ⟨s, e0, k0⟩ := field_str g0
  obtain ⟨d, e1, k1⟩ := field_dig g1
  refine ⟨⟨s, d⟩, list_at (hlen.trans (show Tryz.prog.cellsOf 85 = 2 by kernel_rfl)) (fun i hi => ?_), k0, k1⟩
  exact match i, hi with
  | 0, _ => e0
  | 1, _ => e1
  | k + 2, hi => absurd (show k + 2 < 2 from hi) (by omega)
theorem Tryz.o_out : OpensK enc Tryz.prog W EOut (fun f => f.name.size ≤ 9223372036854775807 ∧ f.dig < 18446744073709551616 ∧ i64R f.size) 69 := fun n cs x h => by
  obtain ⟨xs, m, _, _, hlen, hxl, hf⟩ := DataW.trod_struct Tryz.underlying69 h
  obtain ⟨_, g0⟩ := field_atO 0 9 0 hxl hf (by kernel_rfl) (show Tryz.prog.cellsOf 9 = 1 by kernel_rfl)
  obtain ⟨_, g1⟩ := field_atO 1 58 1 hxl hf (by kernel_rfl) (show Tryz.prog.cellsOf 58 = 1 by kernel_rfl)
  obtain ⟨_, g2⟩ := field_atO 2 3 2 hxl hf (by kernel_rfl) (show Tryz.prog.cellsOf 3 = 1 by kernel_rfl)
  obtain ⟨s, e0, k0⟩ := field_str g0
  obtain ⟨d, e1, k1⟩ := field_dig g1
  obtain ⟨z, e2, k2⟩ := field_int Tryz.underlying3 g2
  refine ⟨⟨s, d, z⟩, list_at (hlen.trans (show Tryz.prog.cellsOf 69 = 3 by kernel_rfl)) (fun i hi => ?_), k0, k1, k2⟩
  exact match i, hi with
  | 0, _ => e0
  | 1, _ => e1
  | 2, _ => e2
  | k + 3, hi => absurd (show k + 3 < 3 from hi) (by omega)
theorem Tryz.o_tim : OpensK enc Tryz.prog W ETim (fun f => f.name.size ≤ 9223372036854775807 ∧ i64R f.time) 115 := fun n cs x h => by
  obtain ⟨xs, m, _, _, hlen, hxl, hf⟩ := DataW.trod_struct Tryz.underlying115 h
  obtain ⟨_, g0⟩ := field_atO 0 9 0 hxl hf (by kernel_rfl) (show Tryz.prog.cellsOf 9 = 1 by kernel_rfl)
  obtain ⟨_, g1⟩ := field_atO 1 3 1 hxl hf (by kernel_rfl) (show Tryz.prog.cellsOf 3 = 1 by kernel_rfl)
  obtain ⟨s, e0, k0⟩ := field_str g0
  obtain ⟨z, e1, k1⟩ := field_int Tryz.underlying3 g1
  refine ⟨⟨s, z⟩, list_at (hlen.trans (show Tryz.prog.cellsOf 115 = 2 by kernel_rfl)) (fun i hi => ?_), k0, k1⟩
  exact match i, hi with
  | 0, _ => e0
  | 1, _ => e1
  | k + 2, hi => absurd (show k + 2 < 2 from hi) (by omega)
theorem Tryz.o_step : OpensK enc Tryz.prog W EStep (fun f => i64R f.op ∧ f.name.size ≤ 9223372036854775807 ∧ f.text.size ≤ 9223372036854775807 ∧ i64R f.n) 80 := fun n cs x h => by
  obtain ⟨xs, m, _, _, hlen, hxl, hf⟩ := DataW.trod_struct Tryz.underlying80 h
  obtain ⟨_, g0⟩ := field_atO 0 3 0 hxl hf (by kernel_rfl) (show Tryz.prog.cellsOf 3 = 1 by kernel_rfl)
  obtain ⟨_, g1⟩ := field_atO 1 9 1 hxl hf (by kernel_rfl) (show Tryz.prog.cellsOf 9 = 1 by kernel_rfl)
  obtain ⟨_, g2⟩ := field_atO 2 9 2 hxl hf (by kernel_rfl) (show Tryz.prog.cellsOf 9 = 1 by kernel_rfl)
  obtain ⟨_, g3⟩ := field_atO 3 3 3 hxl hf (by kernel_rfl) (show Tryz.prog.cellsOf 3 = 1 by kernel_rfl)
  obtain ⟨o, e0, k0⟩ := field_int Tryz.underlying3 g0
  obtain ⟨s, e1, k1⟩ := field_str g1
  obtain ⟨t, e2, k2⟩ := field_str g2
  obtain ⟨z, e3, k3⟩ := field_int Tryz.underlying3 g3
  refine ⟨⟨o, s, t, z⟩, list_at (hlen.trans (show Tryz.prog.cellsOf 80 = 4 by kernel_rfl)) (fun i hi => ?_), k0, k1, k2, k3⟩
  exact match i, hi with
  | 0, _ => e0
  | 1, _ => e1
  | 2, _ => e2
  | 3, _ => e3
  | k + 4, hi => absurd (show k + 4 < 4 from hi) (by omega)
theorem take_at {cs : List Value} {o c k : Nat} {v : Value} (h : ((cs.drop o).take c)[k]? = some v) (hk : k < c) : cs[o + k]? = some v := by
  rw [List.getElem?_take, if_pos hk, List.getElem?_drop] at h
  exact h
theorem Tryz.o_ent : OpensK enc Tryz.prog W EEnt (fun f => f.key.size ≤ 9223372036854775807 ∧ f.dig < 18446744073709551616 ∧ i64R f.size) 76 := fun n cs x h => by
  obtain ⟨xs, m, _, _, hlen, hxl, hf⟩ := DataW.trod_struct Tryz.underlying76 h
  obtain ⟨_, gs⟩ := field_atO 0 74 0 hxl hf (by kernel_rfl) (show Tryz.prog.cellsOf 74 = 3 by kernel_rfl)
  obtain ⟨_, g3⟩ := field_atO 1 9 3 hxl hf (by kernel_rfl) (show Tryz.prog.cellsOf 9 = 1 by kernel_rfl)
  obtain ⟨_, g4⟩ := field_atO 2 58 4 hxl hf (by kernel_rfl) (show Tryz.prog.cellsOf 58 = 1 by kernel_rfl)
  obtain ⟨_, g5⟩ := field_atO 3 3 5 hxl hf (by kernel_rfl) (show Tryz.prog.cellsOf 3 = 1 by kernel_rfl)
  obtain ⟨_, g6⟩ := field_atO 4 3 6 hxl hf (by kernel_rfl) (show Tryz.prog.cellsOf 3 = 1 by kernel_rfl)
  obtain ⟨_, g7⟩ := field_atO 5 3 7 hxl hf (by kernel_rfl) (show Tryz.prog.cellsOf 3 = 1 by kernel_rfl)
  obtain ⟨ys, k, _, _, _, hyl, hg⟩ := DataW.trod_struct Tryz.underlying74 gs
  obtain ⟨_, g0⟩ := field_atO 0 9 0 hyl hg (by kernel_rfl) (show Tryz.prog.cellsOf 9 = 1 by kernel_rfl)
  obtain ⟨_, g1⟩ := field_atO 1 3 1 hyl hg (by kernel_rfl) (show Tryz.prog.cellsOf 3 = 1 by kernel_rfl)
  obtain ⟨_, g2⟩ := field_atO 2 9 2 hyl hg (by kernel_rfl) (show Tryz.prog.cellsOf 9 = 1 by kernel_rfl)
  obtain ⟨a0, e0, k0⟩ := field_str g0
  obtain ⟨a1, e1, k1⟩ := field_int Tryz.underlying3 g1
  obtain ⟨a2, e2, k2⟩ := field_str g2
  obtain ⟨a3, e3, k3⟩ := field_str g3
  obtain ⟨a4, e4, k4⟩ := field_dig g4
  obtain ⟨a5, e5, k5⟩ := field_int Tryz.underlying3 g5
  obtain ⟨a6, e6, k6⟩ := field_int Tryz.underlying3 g6
  obtain ⟨a7, e7, k7⟩ := field_int Tryz.underlying3 g7
  have f0 := take_at e0 (by omega)
  have f1 := take_at e1 (by omega)
  have f2 := take_at e2 (by omega)
  refine ⟨⟨a0, a1, a2, a3, a4, a5, a6, a7⟩, list_at (hlen.trans (show Tryz.prog.cellsOf 76 = 8 by kernel_rfl)) (fun i hi => ?_), k3, k4, k5⟩
  exact match i, hi with
  | 0, _ => f0
  | 1, _ => f1
  | 2, _ => f2
  | 3, _ => e3
  | 4, _ => e4
  | 5, _ => e5
  | 6, _ => e6
  | 7, _ => e7
  | k + 8, hi => absurd (show k + 8 < 8 from hi) (by omega)
theorem Tryz.o_sec : OpensK enc Tryz.prog W ESec (fun f => f.name.size ≤ 9223372036854775807 ∧ f.text.size ≤ 9223372036854775807 ∧ f.refs.length ≤ 9223372036854775807 ∧ f.envs.length ≤ 9223372036854775807 ∧ (∀ q ∈ f.refs, q.size ≤ 9223372036854775807) ∧ (∀ q ∈ f.envs, q.size ≤ 9223372036854775807)) 110 := fun n cs x h => by
  obtain ⟨xs, m, _, _, hlen, hxl, hf⟩ := DataW.trod_struct Tryz.underlying110 h
  obtain ⟨_, g0⟩ := field_atO 0 9 0 hxl hf (by kernel_rfl) (show Tryz.prog.cellsOf 9 = 1 by kernel_rfl)
  obtain ⟨_, g1⟩ := field_atO 1 9 1 hxl hf (by kernel_rfl) (show Tryz.prog.cellsOf 9 = 1 by kernel_rfl)
  obtain ⟨_, g2⟩ := field_atO 2 3 2 hxl hf (by kernel_rfl) (show Tryz.prog.cellsOf 3 = 1 by kernel_rfl)
  obtain ⟨_, g3⟩ := field_atO 3 22 3 hxl hf (by kernel_rfl) (show Tryz.prog.cellsOf 22 = 1 by kernel_rfl)
  obtain ⟨_, g4⟩ := field_atO 4 22 4 hxl hf (by kernel_rfl) (show Tryz.prog.cellsOf 22 = 1 by kernel_rfl)
  obtain ⟨a0, e0, k0⟩ := field_str g0
  obtain ⟨a1, e1, k1⟩ := field_str g1
  obtain ⟨a2, e2, k2⟩ := field_int Tryz.underlying3 g2
  obtain ⟨v3, l3, q3, r3, n3, m3⟩ := (Tryz.o_str (enc := enc)).row (by kernel_rfl) Tryz.underlying22 g3
  obtain ⟨v4, l4, q4, r4, n4, m4⟩ := (Tryz.o_str (enc := enc)).row (by kernel_rfl) Tryz.underlying22 g4
  refine ⟨⟨a0, a1, a2, l3, l4⟩, ⟨v3, v4, list_at (hlen.trans (show Tryz.prog.cellsOf 110 = 5 by kernel_rfl)) (fun i hi => ?_), r3, r4⟩, k0, k1, n3, n4, m3, m4⟩
  exact match i, hi with
  | 0, _ => e0
  | 1, _ => e1
  | 2, _ => e2
  | 3, _ => cs_drop1 q3
  | 4, _ => cs_drop1 q4
  | k + 5, hi => absurd (show k + 5 < 5 from hi) (by omega)
/-- the sizes that any memory has -/
structure JFit (j : JobM) : Prop where
  steps : j.steps.length ≤ 9223372036854775807
  stepN : ∀ f ∈ j.steps, i64R f.op ∧ f.name.size ≤ 9223372036854775807 ∧ f.text.size ≤ 9223372036854775807 ∧ i64R f.n
  timeout : i64R j.timeout
  inputs : j.inputs.length ≤ 9223372036854775807
  inputN : ∀ s ∈ j.inputs, s.size ≤ 9223372036854775807
  uses : j.uses.length ≤ 9223372036854775807
  useN : ∀ s ∈ j.uses, s.size ≤ 9223372036854775807
  outputs : j.outputs.length ≤ 9223372036854775807
  outputN : ∀ s ∈ j.outputs, s.size ≤ 9223372036854775807
  caches : j.ncach ≤ 9223372036854775807
  secrets : j.secrets.length ≤ 9223372036854775807
  secretN : ∀ s ∈ j.secrets, s.size ≤ 9223372036854775807
structure VFit (v : ViewM) : Prop where
  files : v.files.length ≤ 9223372036854775807
  fileN : ∀ f ∈ v.files, f.path.size ≤ 9223372036854775807 ∧ f.dig < 18446744073709551616
  arts : v.arts.length ≤ 9223372036854775807
  artN : ∀ f ∈ v.arts, f.name.size ≤ 9223372036854775807 ∧ f.dig < 18446744073709551616 ∧ i64R f.size
  secs : v.secs.length ≤ 9223372036854775807
  secN : ∀ f ∈ v.secs, f.name.size ≤ 9223372036854775807 ∧ f.text.size ≤ 9223372036854775807 ∧ f.refs.length ≤ 9223372036854775807 ∧ f.envs.length ≤ 9223372036854775807 ∧ (∀ q ∈ f.refs, q.size ≤ 9223372036854775807) ∧ (∀ q ∈ f.envs, q.size ≤ 9223372036854775807)
  caches : v.caches.length ≤ 9223372036854775807
  cacheN : ∀ f ∈ v.caches, f.key.size ≤ 9223372036854775807 ∧ f.dig < 18446744073709551616 ∧ i64R f.size
  keys : v.keys.length ≤ 9223372036854775807
  keyN : ∀ s ∈ v.keys, s.size ≤ 9223372036854775807
  tests : v.tests.length ≤ 9223372036854775807
  testN : ∀ s ∈ v.tests, s.size ≤ 9223372036854775807
  times : v.times.length ≤ 9223372036854775807
  timeN : ∀ f ∈ v.times, f.name.size ≤ 9223372036854775807 ∧ i64R f.time
  ign : v.ignored.length ≤ 9223372036854775807
  ignN : ∀ s ∈ v.ignored, s.size ≤ 9223372036854775807
  att : i64R v.attempt
set_option maxRecDepth 100000 in
theorem open_job {base : Nat} {v : Value} {d : DataW H} {p : List MemPlace} (hv : Value.okWide Tryz.prog W .any base tJob v) (h : DataW.Trod enc Tryz.prog W 0 (fun _ => true) true tJob v d p) :
    ∃ (c : Nat → Value) (j : JobM), v = jobA c ∧ JAt W.heap.size c j W ∧ JFit j := by
  obtain ⟨cs, rfl, _⟩ := okWide_struct Tryz.underlying38 hv
  obtain ⟨fuel, hf0⟩ := h
  obtain ⟨xs, m, _, _, hlen, hxl, hf⟩ := DataW.trod_struct Tryz.underlying38 hf0
  have hl : cs.toList.length = 39 := hlen.trans (show Tryz.prog.cellsOf tJob = 39 by kernel_rfl)
  obtain ⟨_, g4⟩ := field_atO 4 30 13 hxl hf (by kernel_rfl) (show Tryz.prog.cellsOf 30 = 1 by kernel_rfl)
  obtain ⟨_, g10⟩ := field_atO 10 3 19 hxl hf (by kernel_rfl) (show Tryz.prog.cellsOf 3 = 1 by kernel_rfl)
  obtain ⟨_, g12⟩ := field_atO 12 22 24 hxl hf (by kernel_rfl) (show Tryz.prog.cellsOf 22 = 1 by kernel_rfl)
  obtain ⟨_, g13⟩ := field_atO 13 22 25 hxl hf (by kernel_rfl) (show Tryz.prog.cellsOf 22 = 1 by kernel_rfl)
  obtain ⟨_, g14⟩ := field_atO 14 22 26 hxl hf (by kernel_rfl) (show Tryz.prog.cellsOf 22 = 1 by kernel_rfl)
  obtain ⟨_, g15⟩ := field_atO 15 34 27 hxl hf (by kernel_rfl) (show Tryz.prog.cellsOf 34 = 1 by kernel_rfl)
  obtain ⟨_, g16⟩ := field_atO 16 22 28 hxl hf (by kernel_rfl) (show Tryz.prog.cellsOf 22 = 1 by kernel_rfl)
  obtain ⟨_, g24⟩ := field_atO 24 4 38 hxl hf (by kernel_rfl) (show Tryz.prog.cellsOf 4 = 1 by kernel_rfl)
  obtain ⟨v13, st, e13, r13, n13, m13⟩ := (Tryz.o_step (enc := enc)).row (by kernel_rfl) Tryz.underlying30 g4
  obtain ⟨tmo, e19, k19⟩ := field_int Tryz.underlying3 g10
  obtain ⟨v24, inp, e24, r24, n24, m24⟩ := (Tryz.o_str (enc := enc)).row (by kernel_rfl) Tryz.underlying22 g12
  obtain ⟨v25, us, e25, r25, n25, m25⟩ := (Tryz.o_str (enc := enc)).row (by kernel_rfl) Tryz.underlying22 g13
  obtain ⟨v26, ou, e26, r26, n26, m26⟩ := (Tryz.o_str (enc := enc)).row (by kernel_rfl) Tryz.underlying22 g14
  obtain ⟨co, nc, cc, e27, n27⟩ : ∃ co nc cc, (cs.toList.drop 27).take 1 = [.slice co nc cc] ∧ nc ≤ 9223372036854775807 := by
    rcases DataW.trod_slice Tryz.underlying34 g15 with ⟨hcs, _⟩ | ⟨a, len, cap, _, _, _, _, hcs, _, _, hlc, hcm, _⟩
    · exact ⟨_, _, _, hcs, by decide⟩
    · exact ⟨_, _, _, hcs, Nat.le_trans hlc hcm⟩
  obtain ⟨v28, se, e28, r28, n28, m28⟩ := (Tryz.o_str (enc := enc)).row (by kernel_rfl) Tryz.underlying22 g16
  obtain ⟨ch, e38⟩ := field_bool g24
  have hc : ∀ {o : Nat} {u : Value}, cs.toList[o]? = some u → (cs.toList[o]?).getD default = u := fun h => by rw [h]; rfl
  refine ⟨fun i => (cs.toList[i]?).getD default, ⟨st, tmo, inp, us, ou, nc, se, ch⟩, ?_, ⟨?_, hc e19, ?_, ?_, ?_, ⟨co, cc, hc (cs_drop1 e27)⟩, ?_, hc e38⟩, ⟨n13, m13, k19, n24, m24, n25, m25, n26, m26, n27, n28, m28⟩⟩
  · show Value.agg cs = _
    congr 1
    apply Array.ext'
    apply list_at hl
    intro i hi
    have hi39 : i < 39 := hi
    rw [List.getElem?_eq_getElem (by omega)]
    congr 1
    have e : (jobC fun i => (cs.toList[i]?).getD default).toList = (List.range 39).map fun i => (cs.toList[i]?).getD default := rfl
    have := congrArg (fun l : List Value => l[i]?) e
    dsimp only at this
    rw [List.getElem?_map, List.getElem?_range hi39, List.getElem?_eq_getElem hi] at this
    have h2 := Option.some.inj this
    rw [h2]
    show cs.toList[i] = (cs.toList[i]?).getD default
    rw [List.getElem?_eq_getElem (by omega)]
    rfl
  · show EStep.Row _ _ _ ((cs.toList[13]?).getD default); rw [hc (cs_drop1 e13)]; exact r13
  · show EStr.Row _ _ _ ((cs.toList[24]?).getD default); rw [hc (cs_drop1 e24)]; exact r24
  · show EStr.Row _ _ _ ((cs.toList[25]?).getD default); rw [hc (cs_drop1 e25)]; exact r25
  · show EStr.Row _ _ _ ((cs.toList[26]?).getD default); rw [hc (cs_drop1 e26)]; exact r26
  · show EStr.Row _ _ _ ((cs.toList[28]?).getD default); rw [hc (cs_drop1 e28)]; exact r28
set_option maxRecDepth 100000 in
theorem open_view {base : Nat} {v : Value} {d : DataW H} {p : List MemPlace} (hv : Value.okWide Tryz.prog W .any base tView v) (h : DataW.Trod enc Tryz.prog W 0 (fun _ => true) true tView v d p) :
    ∃ (c : Nat → Value) (x : ViewM), v = viewA c ∧ VAt W.heap.size c x W ∧ VFit x := by
  obtain ⟨cs, rfl, _⟩ := okWide_struct Tryz.underlying45 hv
  obtain ⟨fuel, hf0⟩ := h
  obtain ⟨xs, m, _, _, hlen, hxl, hf⟩ := DataW.trod_struct Tryz.underlying45 hf0
  have hl : cs.toList.length = 9 := hlen.trans (show Tryz.prog.cellsOf tView = 9 by kernel_rfl)
  obtain ⟨_, g0⟩ := field_atO 0 39 0 hxl hf (by kernel_rfl) (show Tryz.prog.cellsOf 39 = 1 by kernel_rfl)
  obtain ⟨_, g1⟩ := field_atO 1 40 1 hxl hf (by kernel_rfl) (show Tryz.prog.cellsOf 40 = 1 by kernel_rfl)
  obtain ⟨_, g2⟩ := field_atO 2 41 2 hxl hf (by kernel_rfl) (show Tryz.prog.cellsOf 41 = 1 by kernel_rfl)
  obtain ⟨_, g3⟩ := field_atO 3 42 3 hxl hf (by kernel_rfl) (show Tryz.prog.cellsOf 42 = 1 by kernel_rfl)
  obtain ⟨_, g4⟩ := field_atO 4 22 4 hxl hf (by kernel_rfl) (show Tryz.prog.cellsOf 22 = 1 by kernel_rfl)
  obtain ⟨_, g5⟩ := field_atO 5 22 5 hxl hf (by kernel_rfl) (show Tryz.prog.cellsOf 22 = 1 by kernel_rfl)
  obtain ⟨_, g6⟩ := field_atO 6 43 6 hxl hf (by kernel_rfl) (show Tryz.prog.cellsOf 43 = 1 by kernel_rfl)
  obtain ⟨_, g7⟩ := field_atO 7 22 7 hxl hf (by kernel_rfl) (show Tryz.prog.cellsOf 22 = 1 by kernel_rfl)
  obtain ⟨_, g8⟩ := field_atO 8 3 8 hxl hf (by kernel_rfl) (show Tryz.prog.cellsOf 3 = 1 by kernel_rfl)
  obtain ⟨v0, a0, e0, r0, n0, m0⟩ := (Tryz.o_file (enc := enc)).row (by kernel_rfl) Tryz.underlying39 g0
  obtain ⟨v1, a1, e1, r1, n1, m1⟩ := (Tryz.o_out (enc := enc)).row (by kernel_rfl) Tryz.underlying40 g1
  obtain ⟨v2, a2, e2, r2, n2, m2⟩ := (Tryz.o_sec (enc := enc)).row (by kernel_rfl) Tryz.underlying41 g2
  obtain ⟨v3, a3, e3, r3, n3, m3⟩ := (Tryz.o_ent (enc := enc)).row (by kernel_rfl) Tryz.underlying42 g3
  obtain ⟨v4, a4, e4, r4, n4, m4⟩ := (Tryz.o_str (enc := enc)).row (by kernel_rfl) Tryz.underlying22 g4
  obtain ⟨v5, a5, e5, r5, n5, m5⟩ := (Tryz.o_str (enc := enc)).row (by kernel_rfl) Tryz.underlying22 g5
  obtain ⟨v6, a6, e6, r6, n6, m6⟩ := (Tryz.o_tim (enc := enc)).row (by kernel_rfl) Tryz.underlying43 g6
  obtain ⟨v7, a7, e7, r7, n7, m7⟩ := (Tryz.o_str (enc := enc)).row (by kernel_rfl) Tryz.underlying22 g7
  obtain ⟨a8, e8, k8⟩ := field_int Tryz.underlying3 g8
  have hc : ∀ {o : Nat} {u : Value}, cs.toList[o]? = some u → (cs.toList[o + 39 - 39]?).getD default = u := fun h => by rw [Nat.add_sub_cancel, h]; rfl
  refine ⟨fun i => (cs.toList[i - 39]?).getD default, ⟨a0, a1, a2, a3, a4, a5, a6, a7, a8⟩, ?_, ⟨?_, ?_, ?_, ?_, ?_, ?_, ?_, ?_, hc e8⟩, ⟨n0, m0, n1, m1, n2, m2, n3, m3, n4, m4, n5, m5, n6, m6, n7, m7, k8⟩⟩
  · show Value.agg cs = _
    congr 1
    apply Array.ext'
    apply list_at hl
    intro i hi
    have hi9 : i < 9 := hi
    rw [List.getElem?_eq_getElem (by omega)]
    congr 1
    have e : (viewC fun i => (cs.toList[i - 39]?).getD default).toList = (List.range 9).map fun i => (cs.toList[i]?).getD default := rfl
    have := congrArg (fun l : List Value => l[i]?) e
    dsimp only at this
    rw [List.getElem?_map, List.getElem?_range hi9, List.getElem?_eq_getElem hi] at this
    have h2 := Option.some.inj this
    rw [h2]
    show cs.toList[i] = (cs.toList[i]?).getD default
    rw [List.getElem?_eq_getElem (by omega)]
    rfl
  · show EFile.Row _ _ _ ((cs.toList[0]?).getD default); rw [hc (cs_drop1 e0)]; exact r0
  · show EOut.Row _ _ _ ((cs.toList[1]?).getD default); rw [hc (cs_drop1 e1)]; exact r1
  · show ESec.Row _ _ _ ((cs.toList[2]?).getD default); rw [hc (cs_drop1 e2)]; exact r2
  · show EEnt.Row _ _ _ ((cs.toList[3]?).getD default); rw [hc (cs_drop1 e3)]; exact r3
  · show EStr.Row _ _ _ ((cs.toList[4]?).getD default); rw [hc (cs_drop1 e4)]; exact r4
  · show EStr.Row _ _ _ ((cs.toList[5]?).getD default); rw [hc (cs_drop1 e5)]; exact r5
  · show ETim.Row _ _ _ ((cs.toList[6]?).getD default); rw [hc (cs_drop1 e6)]; exact r6
  · show EStr.Row _ _ _ ((cs.toList[7]?).getD default); rw [hc (cs_drop1 e7)]; exact r7
end
end Go.Proofs.YtghahghbahcpfaaGreatDoor
