/- The arguments of the laws about reports, opened: lists of structs, arrays of integers. -/
import Derived.Test.YtngbjnjkcniabaaGreatDoorRp1
import Derived.ProofKit
import Derived.OpenShut
import Derived.Deep.Slices
import Derived.Deep.Fields
namespace Go.Proofs.YtngbjnjkcniabaaGreatDoor
open Go.ChangeShapes Go.WideShapes Go.Deep Go.RowKit

section
variable {H : Type} {enc : TypeId × Value → H} {P : Program} {w : World}

theorem list_of {α : Type} {R : Nat → α → Prop} : ∀ n : Nat, (∀ i, i < n → ∃ q, R i q) → ∃ qs : List α, qs.length = n ∧ ∀ (i : Nat) (h : i < qs.length), R i qs[i]
  | 0, _ => ⟨[], rfl, fun i h => by cases h⟩
  | n + 1, hR => by
    obtain ⟨qs, hl, hq⟩ := list_of n fun i hi => hR i (by omega)
    obtain ⟨q, hq'⟩ := hR n (by omega)
    refine ⟨qs ++ [q], by simp [hl], fun i h => ?_⟩
    by_cases hi : i < qs.length
    · rw [List.getElem_append_left hi]; exact hq i hi
    · have : i = n := by simp at h; omega
      subst this
      rw [List.getElem_append_right (by omega)]
      simp [hl]
      exact hq'

/-- a slice whose elements read, cell for cell -/
theorem open_cells {α : Type} {sz : Nat} {f : α → List Value} {t e : TypeId} (hsz : 0 < sz) (hlen : ∀ x, (f x).length = sz) (ht : P.underlying t = some (.slice e)) (hC : P.cellsOf e = sz)
    (hel : ∀ (n : Nat) (cs : List Value) (x : DataW H × List MemPlace), DataW.trod enc P w 0 (fun _ => true) true n e cs = some x → ∃ y, cs = f y)
    {ao : Option Addr} {len cap : Nat} {d : DataW H} {p : List MemPlace} (h : DataW.Trod enc P w 0 (fun _ => true) true t (.slice ao len cap) d p) : ∃ qs : List α, SlAt sz f w (.slice ao len cap) qs := by
  obtain ⟨fuel, hf⟩ := h
  rcases open_slice ht hf with ⟨hcs, _⟩ | ⟨a, len', cap', m, n, D, Pl, hcs, hb, hl, hm, hmm, hx, hi⟩
  · simp [Value.cells] at hcs
    obtain ⟨rfl, rfl, rfl⟩ := hcs
    exact ⟨[], .inl ⟨_, _, rfl, rfl⟩⟩
  · simp [Value.cells] at hcs
    obtain ⟨rfl, rfl, rfl⟩ := hcs
    simp only [if_true] at hmm
    rw [hC] at hi
    obtain ⟨qs, hql, hqs⟩ := list_of (R := fun i (q : α) => ∀ j u, (f q)[j]? = some u → w.cell? ((a.add (i * sz)).add j) = some u) len (fun i him => by
      obtain ⟨cs', hc, ht'⟩ := hi i (by omega)
      obtain ⟨y, rfl⟩ := hel n cs' _ ht'
      obtain ⟨_, hcl, hat⟩ := World.cells?_some hc
      refine ⟨y, fun j u hj => ?_⟩
      have hjl := (List.getElem?_eq_some_iff.1 hj).1
      rw [hlen] at hjl
      rw [hat j hjl, hj])
    by_cases h0 : len = 0
    · subst h0
      exact ⟨[], .inl ⟨_, _, rfl, rfl⟩⟩
    · obtain ⟨b, off, sp⟩ := a
      have hq0 := hqs 0 (by omega)
      have hq1 : 0 < qs.length := by omega
      obtain ⟨u, hu⟩ : ∃ u, (f (qs[0]'hq1))[0]? = some u := ⟨(f (qs[0]'hq1))[0]'(by rw [hlen]; exact hsz), List.getElem?_eq_getElem _⟩
      have hc0 := hq0 0 u hu
      rw [Nat.zero_mul, show ((⟨b, off, sp⟩ : Addr).add 0).add 0 = ⟨b, off, sp⟩ from rfl] at hc0
      have hbl : b < w.heap.size := by
        unfold World.cell? at hc0
        cases h : w.heap[b]? with
        | none => simp only [h] at hc0; cases hc0
        | some o => exact (Array.getElem?_eq_some_iff.1 h).1
      have hsp : sp = none := by
        unfold World.cell? at hc0
        split at hc0
        · split at hc0
          · cases hc0
          · rename_i h; simpa using h
        · cases hc0
      subst hsp
      have hadd : ∀ (o j : Nat), (⟨b, o, none⟩ : Addr).add j = ⟨b, o + j, none⟩ := by intro o j; unfold Addr.add; split <;> simp_all
      refine ⟨qs, .inr ⟨b, off, cap, by rw [hql], hbl, fun k hk j u hj => ?_⟩⟩
      have := hqs k hk j u hj
      rw [hadd, hadd] at this
      exact this

theorem three_of {l : List Value} (h : l.length = 3) : ∃ a b c, l = [a, b, c] := by
  match l, h with
  | [a, b, c], _ => exact ⟨a, b, c, rfl⟩
/-- one field of a struct: a cell of its own -/
theorem field_at {fs : Array Field} {n : Nat} {cs : List Value} {xs : List (DataW H × List MemPlace)} {i t : Nat} (hl : xs.length = fs.size)
    (hf : ∀ (i : Nat) (f : Field), fs[i]? = some f → DataW.trod enc P w 0 (fun _ => true) true n f.type ((cs.drop f.offset).take (P.cellsOf f.type)) = xs[i]?)
    (hfd : (fs[i]?).map (fun f => (f.type, f.offset)) = some (t, i)) (ht : P.cellsOf t = 1) : ∃ x, DataW.trod enc P w 0 (fun _ => true) true n t ((cs.drop i).take 1) = some x := by
  cases hfi : fs[i]? with
  | none => rw [hfi] at hfd; cases hfd
  | some f =>
    rw [hfi] at hfd
    simp only [Option.map_some, Option.some.injEq, Prod.mk.injEq] at hfd
    have h1 := hf i f hfi
    rw [hfd.1, hfd.2, ht] at h1
    have hi : i < xs.length := by rw [hl]; exact (Array.getElem?_eq_some_iff.1 hfi).1
    exact ⟨xs[i], h1.trans (List.getElem?_eq_getElem hi)⟩

/-- a struct of a string and two integers -/
theorem struct_qu {e : TypeId} {fs : Array Field} (he : P.underlying e = some (.struct fs)) (hC : P.cellsOf e = 3) (h0 : (fs[0]?).map (fun f => (f.type, f.offset)) = some (9, 0)) (h1 : (fs[1]?).map (fun f => (f.type, f.offset)) = some (3, 1)) (h2 : (fs[2]?).map (fun f => (f.type, f.offset)) = some (3, 2))
    (c9 : P.cellsOf 9 = 1) (c3 : P.cellsOf 3 = 1) (u9 : P.underlying 9 = some .string) (u3 : P.underlying 3 = some (.int .i64)) :
    ∀ (n : Nat) (cs : List Value) (x : DataW H × List MemPlace), DataW.trod enc P w 0 (fun _ => true) true n e cs = some x → ∃ y : Qu, cs = y.cells := by
  intro n cs x hx
  obtain ⟨xs, m, _, _, hlen, hxl, hf⟩ := DataW.trod_struct he hx
  rw [hC] at hlen
  obtain ⟨a, b, c, rfl⟩ := three_of hlen
  obtain ⟨x0, g0⟩ := field_at hxl hf h0 c9
  obtain ⟨x1, g1⟩ := field_at hxl hf h1 c3
  obtain ⟨x2, g2⟩ := field_at hxl hf h2 c3
  obtain ⟨s, e0, _⟩ := DataW.trod_string u9 g0
  obtain ⟨k1, e1, _⟩ := DataW.trod_int u3 g1
  obtain ⟨k2, e2, _⟩ := DataW.trod_int u3 g2
  simp at e0 e1 e2
  exact ⟨⟨s, k1, k2⟩, by rw [e0, e1, e2]; rfl⟩

end
/-- elements that a string's bound holds of -/
abbrev QuB := { q : Qu // q.name.size ≤ 9223372036854775807 }

theorem quB_at {w : World} {v : Value} {xs : List QuB} (h : SlAt 3 (fun q : QuB => q.1.cells) w v xs) : QuAt w v (xs.map (·.1)) ∧ ∀ q ∈ xs.map (·.1), q.name.size ≤ 9223372036854775807 := by
  refine ⟨?_, fun q hq => ?_⟩
  · rcases h with ⟨ao, cap, rfl, rfl⟩ | ⟨b, off, cap, rfl, h2, h3⟩
    · exact .inl ⟨ao, cap, rfl, rfl⟩
    · refine .inr ⟨b, off, cap, by rw [List.length_map], h2, fun k hk j u hu => ?_⟩
      have hk' : k < xs.length := by simpa using hk
      rw [List.getElem_map] at hu
      exact h3 k hk' j u hu
  · obtain ⟨x, _, rfl⟩ := List.mem_map.1 hq
    exact x.2

section
variable {H : Type} {enc : TypeId × Value → H} {P : Program} {w : World}
theorem struct_quB {e : TypeId} {fs : Array Field} (he : P.underlying e = some (.struct fs)) (hC : P.cellsOf e = 3) (h0 : (fs[0]?).map (fun f => (f.type, f.offset)) = some (9, 0)) (h1 : (fs[1]?).map (fun f => (f.type, f.offset)) = some (3, 1)) (h2 : (fs[2]?).map (fun f => (f.type, f.offset)) = some (3, 2))
    (c9 : P.cellsOf 9 = 1) (c3 : P.cellsOf 3 = 1) (u9 : P.underlying 9 = some .string) (u3 : P.underlying 3 = some (.int .i64)) :
    ∀ (n : Nat) (cs : List Value) (x : DataW H × List MemPlace), DataW.trod enc P w 0 (fun _ => true) true n e cs = some x → ∃ y : QuB, cs = y.1.cells := by
  intro n cs x hx
  obtain ⟨xs, m, _, _, hlen, hxl, hf⟩ := DataW.trod_struct he hx
  rw [hC] at hlen
  obtain ⟨a, b, c, rfl⟩ := three_of hlen
  obtain ⟨x0, g0⟩ := field_at hxl hf h0 c9
  obtain ⟨x1, g1⟩ := field_at hxl hf h1 c3
  obtain ⟨x2, g2⟩ := field_at hxl hf h2 c3
  obtain ⟨s, e0, _, hs⟩ := DataW.trod_string u9 g0
  obtain ⟨k1, e1, _⟩ := DataW.trod_int u3 g1
  obtain ⟨k2, e2, _⟩ := DataW.trod_int u3 g2
  simp at e0 e1 e2
  exact ⟨⟨⟨s, k1, k2⟩, hs⟩, by rw [e0, e1, e2]; rfl⟩
end

end Go.Proofs.YtngbjnjkcniabaaGreatDoor
