/- The arguments of the laws about graphs, opened: lists of nodes, of numbers, of bytes. -/
import Derived.Test.YtfegmmafcopbpaaGreatDoorGm1
import Derived.SliceStrings
import Derived.ProofKit
import Derived.OpenShut
import Derived.Deep.Slices
import Derived.Deep.Fields
namespace Go.Proofs.YtfegmmafcopbpaaGreatDoor
open Go.ChangeShapes Go.WideShapes Go.Deep Go.RowKit

section
variable {H : Type} {enc : TypeId × Value → H} {P : Program} {w : World}

theorem list_of {α : Type} {R : Nat → α → Prop} : ∀ n : Nat, (∀ i, i < n → ∃ q, R i q) → ∃ qs : List α, qs.length = n ∧ ∀ (i : Nat) (h : i < qs.length), R i qs[i]
  | 0, _ => ⟨[], rfl, fun i h => by cases h⟩
  | n + 1, hR => by
    obtain ⟨qs, hl, hq⟩ := list_of n fun i hi => hR i (by omega)
    obtain ⟨q, hq'⟩ := hR n (by omega)
    refine ⟨qs ++ [q], by simp [hl], fun i h => ?_⟩
    by_cases hi : i < qs.length
    · rw [List.getElem_append_left hi]; exact hq i hi
    · have : i = n := by simp at h; omega
      subst this
      rw [List.getElem_append_right (by omega)]
      simp [hl]
      exact hq'

/-- a slice whose elements read, cell for cell -/
theorem open_cellsR {α : Type} {sz : Nat} {f : α → List Value} {R : α → Prop} {t e : TypeId} (hsz : 0 < sz) (hlen : ∀ x, (f x).length = sz) (ht : P.underlying t = some (.slice e)) (hC : P.cellsOf e = sz)
    (hel : ∀ (n : Nat) (cs : List Value) (x : DataW H × List MemPlace), DataW.trod enc P w 0 (fun _ => true) true n e cs = some x → ∃ y, cs = f y ∧ R y)
    {ao : Option Addr} {len cap : Nat} {d : DataW H} {p : List MemPlace} (h : DataW.Trod enc P w 0 (fun _ => true) true t (.slice ao len cap) d p) : ∃ qs : List α, SlAt sz f w (.slice ao len cap) qs ∧ (∀ q ∈ qs, R q) ∧ qs.length ≤ 9223372036854775807 := by
  obtain ⟨fuel, hf⟩ := h
  rcases open_slice ht hf with ⟨hcs, _⟩ | ⟨a, len', cap', m, n, D, Pl, hcs, hb, hl, hm, hmm, hx, hi⟩
  · simp [Value.cells] at hcs
    obtain ⟨rfl, rfl, rfl⟩ := hcs
    exact ⟨[], .inl ⟨_, _, rfl, rfl⟩, fun q hq => (by cases hq), Nat.zero_le _⟩
  · simp [Value.cells] at hcs
    obtain ⟨rfl, rfl, rfl⟩ := hcs
    simp only [if_true] at hmm
    rw [hC] at hi
    obtain ⟨qs, hql, hqs⟩ := list_of (R := fun i (q : α) => (∀ j u, (f q)[j]? = some u → w.cell? ((a.add (i * sz)).add j) = some u) ∧ R q) len (fun i him => by
      obtain ⟨cs', hc, ht'⟩ := hi i (by omega)
      obtain ⟨y, rfl, hy⟩ := hel n cs' _ ht'
      obtain ⟨_, hcl, hat⟩ := World.cells?_some hc
      refine ⟨y, fun j u hj => ?_, hy⟩
      have hjl := (List.getElem?_eq_some_iff.1 hj).1
      rw [hlen] at hjl
      rw [hat j hjl, hj])
    have hR : ∀ q ∈ qs, R q := fun q hq => by
      obtain ⟨i, hi, rfl⟩ := List.getElem_of_mem hq
      exact (hqs i hi).2
    have hml : qs.length ≤ 9223372036854775807 := by
      have h1 : len ≤ maxLen := Nat.le_trans hl hm
      rw [hql]
      exact h1
    by_cases h0 : len = 0
    · subst h0
      exact ⟨[], .inl ⟨_, _, rfl, rfl⟩, fun q hq => (by cases hq), Nat.zero_le _⟩
    · obtain ⟨b, off, sp⟩ := a
      have hq0 := (hqs 0 (by omega)).1
      have hq1 : 0 < qs.length := by omega
      obtain ⟨u, hu⟩ : ∃ u, (f (qs[0]'hq1))[0]? = some u := ⟨(f (qs[0]'hq1))[0]'(by rw [hlen]; exact hsz), List.getElem?_eq_getElem _⟩
      have hc0 := hq0 0 u hu
      rw [Nat.zero_mul, show ((⟨b, off, sp⟩ : Addr).add 0).add 0 = ⟨b, off, sp⟩ from rfl] at hc0
      have hbl : b < w.heap.size := by
        unfold World.cell? at hc0
        cases h : w.heap[b]? with
        | none => simp only [h] at hc0; cases hc0
        | some o => exact (Array.getElem?_eq_some_iff.1 h).1
      have hsp : sp = none := by
        unfold World.cell? at hc0
        split at hc0
        · split at hc0
          · cases hc0
          · rename_i h; simpa using h
        · cases hc0
      subst hsp
      have hadd : ∀ (o j : Nat), (⟨b, o, none⟩ : Addr).add j = ⟨b, o + j, none⟩ := by intro o j; unfold Addr.add; split <;> simp_all
      refine ⟨qs, .inr ⟨b, off, cap, by rw [hql], hbl, fun k hk j u hj => ?_⟩, hR, hml⟩
      have := (hqs k hk).1 j u hj
      rw [hadd, hadd] at this
      exact this

theorem twoV_of {l : List Value} (h : l.length = 2) : ∃ a b, l = [a, b] := by
  match l, h with
  | [a, b], _ => exact ⟨a, b, rfl⟩

/-- one field of a struct: a cell of its own -/
theorem field_at {fs : Array Field} {n : Nat} {cs : List Value} {xs : List (DataW H × List MemPlace)} {i t : Nat} (hl : xs.length = fs.size)
    (hf : ∀ (i : Nat) (f : Field), fs[i]? = some f → DataW.trod enc P w 0 (fun _ => true) true n f.type ((cs.drop f.offset).take (P.cellsOf f.type)) = xs[i]?)
    (hfd : (fs[i]?).map (fun f => (f.type, f.offset)) = some (t, i)) (ht : P.cellsOf t = 1) : ∃ x, DataW.trod enc P w 0 (fun _ => true) true n t ((cs.drop i).take 1) = some x := by
  cases hfi : fs[i]? with
  | none => rw [hfi] at hfd; cases hfd
  | some f =>
    rw [hfi] at hfd
    simp only [Option.map_some, Option.some.injEq, Prod.mk.injEq] at hfd
    have h1 := hf i f hfi
    rw [hfd.1, hfd.2, ht] at h1
    have hi : i < xs.length := by rw [hl]; exact (Array.getElem?_eq_some_iff.1 hfi).1
    exact ⟨xs[i], h1.trans (List.getElem?_eq_getElem hi)⟩

/-- a slice of strings, as a cell -/
theorem open_strs_cell {t : TypeId} (ht : P.underlying t = some (.slice 9)) (h9 : P.underlying 9 = some .string) (hc : P.cellsOf 9 = 1) {n : Nat} {cs : List Value} {x : DataW H × List MemPlace} (hf : DataW.trod enc P w 0 (fun _ => true) true n t cs = some x) :
    ∃ v ss, cs = [v] ∧ StrsAt w v ss ∧ (∀ s ∈ ss, s.size ≤ 9223372036854775807) ∧ ss.length ≤ 9223372036854775807 := by
  rcases open_strings ht h9 hc hf with ⟨hcs, _⟩ | ⟨a, len, cap, ss, hcs, _, hl, hm, hz, _, hcell, hws⟩
  · exact ⟨_, [], hcs, .inl ⟨_, _, rfl, rfl⟩, fun s h => (by cases h), by decide⟩
  · simp only [if_true] at hz
    have hlen : (ss.take len).length = len := by simp; omega
    have hml : len ≤ 9223372036854775807 := Nat.le_trans hl hm
    have key : ∀ i, i < len → w.cell? (a.add i) = some (.string ((ss.take len).getD i ByteArray.empty)) := by
      intro i hi
      rw [hcell i (by omega)]
      simp [List.getD, hi]
    by_cases h0 : len = 0
    · subst h0
      exact ⟨_, [], hcs, .inl ⟨_, _, rfl, rfl⟩, fun s h => (by cases h), by decide⟩
    · obtain ⟨b, off, sp⟩ := a
      have hc0 := key 0 (by omega)
      rw [show (⟨b, off, sp⟩ : Addr).add 0 = ⟨b, off, sp⟩ from rfl] at hc0
      have hb : b < w.heap.size := by
        unfold World.cell? at hc0
        cases h : w.heap[b]? with
        | none => simp only [h] at hc0; cases hc0
        | some o => exact (Array.getElem?_eq_some_iff.1 h).1
      have hsp : sp = none := by
        unfold World.cell? at hc0
        split at hc0
        · split at hc0
          · cases hc0
          · rename_i h; simpa using h
        · cases hc0
      subst hsp
      refine ⟨_, ss.take len, hcs, .inr ⟨b, off, cap, by rw [hlen], hb, by rw [hlen]; omega, fun i hi => ?_⟩, fun s hs => hws s (List.mem_of_mem_take hs), by rw [hlen]; exact hml⟩
      rw [← key i (by omega)]
      congr 1
      unfold Addr.add
      split
      · rename_i h; subst h; rfl
      · rfl

/-- a node: a string and a slice of strings -/
theorem struct_nd {e t : TypeId} {fs : Array Field} (he : P.underlying e = some (.struct fs)) (hC : P.cellsOf e = 2) (h0 : (fs[0]?).map (fun f => (f.type, f.offset)) = some (9, 0)) (h1 : (fs[1]?).map (fun f => (f.type, f.offset)) = some (t, 1))
    (c9 : P.cellsOf 9 = 1) (ct : P.cellsOf t = 1) (u9 : P.underlying 9 = some .string) (ut : P.underlying t = some (.slice 9)) :
    ∀ (n : Nat) (cs : List Value) (x : DataW H × List MemPlace), DataW.trod enc P w 0 (fun _ => true) true n e cs = some x → ∃ y : Nd, cs = y.cells ∧ StrsAt w y.nv y.needs ∧ y.needs.length ≤ 9223372036854775807 := by
  intro n cs x hx
  obtain ⟨xs, m, _, _, hlen, hxl, hf⟩ := DataW.trod_struct he hx
  rw [hC] at hlen
  obtain ⟨a, b, rfl⟩ := twoV_of hlen
  obtain ⟨x0, g0⟩ := field_at hxl hf h0 c9
  obtain ⟨x1, g1⟩ := field_at hxl hf h1 ct
  obtain ⟨s, e0, _⟩ := DataW.trod_string u9 g0
  obtain ⟨v, ss, e1, hst, _, hln⟩ := open_strs_cell ut u9 c9 g1
  simp at e0 e1
  subst e1
  exact ⟨⟨s, b, ss⟩, by rw [e0]; rfl, hst, hln⟩

/-- a list of nodes -/
theorem open_nodes {t e u : TypeId} {fs : Array Field} (ht : P.underlying t = some (.slice e)) (he : P.underlying e = some (.struct fs)) (hC : P.cellsOf e = 2) (h0 : (fs[0]?).map (fun f => (f.type, f.offset)) = some (9, 0)) (h1 : (fs[1]?).map (fun f => (f.type, f.offset)) = some (u, 1))
    (c9 : P.cellsOf 9 = 1) (cu : P.cellsOf u = 1) (u9 : P.underlying 9 = some .string) (uu : P.underlying u = some (.slice 9))
    {ao : Option Addr} {len cap : Nat} {d : DataW H} {p : List MemPlace} (h : DataW.Trod enc P w 0 (fun _ => true) true t (.slice ao len cap) d p) :
    ∃ ns : List Nd, NdAt w (.slice ao len cap) ns ∧ (∀ x ∈ ns, x.needs.length ≤ 9223372036854775807) ∧ ns.length ≤ 9223372036854775807 := by
  obtain ⟨ns, h1, h2, h3⟩ := open_cellsR (sz := 2) (f := Nd.cells) (R := fun y => StrsAt w y.nv y.needs ∧ y.needs.length ≤ 9223372036854775807) (by decide) (fun _ => rfl) ht hC (struct_nd he hC h0 h1 c9 cu u9 uu) h
  exact ⟨ns, ⟨h1, fun x hx => (h2 x hx).1⟩, fun x hx => (h2 x hx).2, h3⟩

/-- a list of numbers -/
theorem open_ints_sl {k : IntKind} {t e : TypeId} (ht : P.underlying t = some (.slice e)) (hC : P.cellsOf e = 1) (u3 : P.underlying e = some (.int k))
    {ao : Option Addr} {len cap : Nat} {d : DataW H} {p : List MemPlace} (h : DataW.Trod enc P w 0 (fun _ => true) true t (.slice ao len cap) d p) :
    ∃ zs : List Int, SlAt 1 (fun z => [Value.int k z]) w (.slice ao len cap) zs ∧ (∀ z ∈ zs, (Lit.int k z).wf = true) ∧ zs.length ≤ 9223372036854775807 :=
  open_cellsR (sz := 1) (f := fun z => [Value.int k z]) (R := fun z => (Lit.int k z).wf = true) (by decide) (fun _ => rfl) ht hC (fun n cs x hx => by
    obtain ⟨z, e1, _, hw⟩ := DataW.trod_int u3 hx
    exact ⟨z, e1, hw⟩) h
end
end Go.Proofs.YtfegmmafcopbpaaGreatDoor
