/- The arguments of the laws about quarantine, opened: lists of structs, arrays of integers. -/
import Derived.Test.YthnodeicbicjcaaDoorQlaws2
import Derived.Test.YthnodeicbicjcaaDoorQlaws3
import Derived.ProofKit
import Derived.OpenShut
import Derived.Deep.Slices
import Derived.Deep.Fields
namespace Go.Proofs.YthnodeicbicjcaaDoor
open Go.ChangeShapes Go.WideShapes Go.Deep Go.RowKit

section
variable {H : Type} {enc : TypeId × Value → H} {P : Program} {w : World}

theorem list_of {α : Type} {R : Nat → α → Prop} : ∀ n : Nat, (∀ i, i < n → ∃ q, R i q) → ∃ qs : List α, qs.length = n ∧ ∀ (i : Nat) (h : i < qs.length), R i qs[i]
  | 0, _ => ⟨[], rfl, fun i h => by cases h⟩
  | n + 1, hR => by
    obtain ⟨qs, hl, hq⟩ := list_of n fun i hi => hR i (by omega)
    obtain ⟨q, hq'⟩ := hR n (by omega)
    refine ⟨qs ++ [q], by simp [hl], fun i h => ?_⟩
    by_cases hi : i < qs.length
    · rw [List.getElem_append_left hi]; exact hq i hi
    · have : i = n := by simp at h; omega
      subst this
      rw [List.getElem_append_right (by omega)]
      simp [hl]
      exact hq'

/-- a slice whose elements read, cell for cell -/
theorem open_cells {α : Type} {sz : Nat} {f : α → List Value} {t e : TypeId} (hsz : 0 < sz) (hlen : ∀ x, (f x).length = sz) (ht : P.underlying t = some (.slice e)) (hC : P.cellsOf e = sz)
    (hel : ∀ (n : Nat) (cs : List Value) (x : DataW H × List MemPlace), DataW.trod enc P w 0 (fun _ => true) true n e cs = some x → ∃ y, cs = f y)
    {ao : Option Addr} {len cap : Nat} {d : DataW H} {p : List MemPlace} (h : DataW.Trod enc P w 0 (fun _ => true) true t (.slice ao len cap) d p) : ∃ qs : List α, SlAt sz f w (.slice ao len cap) qs := by
  obtain ⟨fuel, hf⟩ := h
  rcases open_slice ht hf with ⟨hcs, _⟩ | ⟨a, len', cap', m, n, D, Pl, hcs, hb, hl, hm, hmm, hx, hi⟩
  · simp [Value.cells] at hcs
    obtain ⟨rfl, rfl, rfl⟩ := hcs
    exact ⟨[], .inl ⟨_, _, rfl, rfl⟩⟩
  · simp [Value.cells] at hcs
    obtain ⟨rfl, rfl, rfl⟩ := hcs
    simp only [if_true] at hmm
    rw [hC] at hi
    obtain ⟨qs, hql, hqs⟩ := list_of (R := fun i (q : α) => ∀ j u, (f q)[j]? = some u → w.cell? ((a.add (i * sz)).add j) = some u) len (fun i him => by
      obtain ⟨cs', hc, ht'⟩ := hi i (by omega)
      obtain ⟨y, rfl⟩ := hel n cs' _ ht'
      obtain ⟨_, hcl, hat⟩ := World.cells?_some hc
      refine ⟨y, fun j u hj => ?_⟩
      have hjl := (List.getElem?_eq_some_iff.1 hj).1
      rw [hlen] at hjl
      rw [hat j hjl, hj])
    by_cases h0 : len = 0
    · subst h0
      exact ⟨[], .inl ⟨_, _, rfl, rfl⟩⟩
    · obtain ⟨b, off, sp⟩ := a
      have hq0 := hqs 0 (by omega)
      have hq1 : 0 < qs.length := by omega
      obtain ⟨u, hu⟩ : ∃ u, (f (qs[0]'hq1))[0]? = some u := ⟨(f (qs[0]'hq1))[0]'(by rw [hlen]; exact hsz), List.getElem?_eq_getElem _⟩
      have hc0 := hq0 0 u hu
      rw [Nat.zero_mul, show ((⟨b, off, sp⟩ : Addr).add 0).add 0 = ⟨b, off, sp⟩ from rfl] at hc0
      have hbl : b < w.heap.size := by
        unfold World.cell? at hc0
        cases h : w.heap[b]? with
        | none => simp only [h] at hc0; cases hc0
        | some o => exact (Array.getElem?_eq_some_iff.1 h).1
      have hsp : sp = none := by
        unfold World.cell? at hc0
        split at hc0
        · split at hc0
          · cases hc0
          · rename_i h; simpa using h
        · cases hc0
      subst hsp
      have hadd : ∀ (o j : Nat), (⟨b, o, none⟩ : Addr).add j = ⟨b, o + j, none⟩ := by intro o j; unfold Addr.add; split <;> simp_all
      refine ⟨qs, .inr ⟨b, off, cap, by rw [hql], hbl, fun k hk j u hj => ?_⟩⟩
      have := hqs k hk j u hj
      rw [hadd, hadd] at this
      exact this

theorem three_of {l : List Value} (h : l.length = 3) : ∃ a b c, l = [a, b, c] := by
  match l, h with
  | [a, b, c], _ => exact ⟨a, b, c, rfl⟩
theorem six_of {l : List Value} (h : l.length = 6) : ∃ a b c d e g, l = [a, b, c, d, e, g] := by
  match l, h with
  | [a, b, c, d, e, g], _ => exact ⟨a, b, c, d, e, g, rfl⟩

/-- one field of a struct: a cell of its own -/
theorem field_at {fs : Array Field} {n : Nat} {cs : List Value} {xs : List (DataW H × List MemPlace)} {i t : Nat} (hl : xs.length = fs.size)
    (hf : ∀ (i : Nat) (f : Field), fs[i]? = some f → DataW.trod enc P w 0 (fun _ => true) true n f.type ((cs.drop f.offset).take (P.cellsOf f.type)) = xs[i]?)
    (hfd : (fs[i]?).map (fun f => (f.type, f.offset)) = some (t, i)) (ht : P.cellsOf t = 1) : ∃ x, DataW.trod enc P w 0 (fun _ => true) true n t ((cs.drop i).take 1) = some x := by
  cases hfi : fs[i]? with
  | none => rw [hfi] at hfd; cases hfd
  | some f =>
    rw [hfi] at hfd
    simp only [Option.map_some, Option.some.injEq, Prod.mk.injEq] at hfd
    have h1 := hf i f hfi
    rw [hfd.1, hfd.2, ht] at h1
    have hi : i < xs.length := by rw [hl]; exact (Array.getElem?_eq_some_iff.1 hfi).1
    exact ⟨xs[i], h1.trans (List.getElem?_eq_getElem hi)⟩

/-- a struct of a string and two integers -/
theorem struct_qu {e : TypeId} {fs : Array Field} (he : P.underlying e = some (.struct fs)) (hC : P.cellsOf e = 3) (h0 : (fs[0]?).map (fun f => (f.type, f.offset)) = some (9, 0)) (h1 : (fs[1]?).map (fun f => (f.type, f.offset)) = some (3, 1)) (h2 : (fs[2]?).map (fun f => (f.type, f.offset)) = some (3, 2))
    (c9 : P.cellsOf 9 = 1) (c3 : P.cellsOf 3 = 1) (u9 : P.underlying 9 = some .string) (u3 : P.underlying 3 = some (.int .i64)) :
    ∀ (n : Nat) (cs : List Value) (x : DataW H × List MemPlace), DataW.trod enc P w 0 (fun _ => true) true n e cs = some x → ∃ y : Qu, cs = y.cells := by
  intro n cs x hx
  obtain ⟨xs, m, _, _, hlen, hxl, hf⟩ := DataW.trod_struct he hx
  rw [hC] at hlen
  obtain ⟨a, b, c, rfl⟩ := three_of hlen
  obtain ⟨x0, g0⟩ := field_at hxl hf h0 c9
  obtain ⟨x1, g1⟩ := field_at hxl hf h1 c3
  obtain ⟨x2, g2⟩ := field_at hxl hf h2 c3
  obtain ⟨s, e0, _⟩ := DataW.trod_string u9 g0
  obtain ⟨k1, e1, _⟩ := DataW.trod_int u3 g1
  obtain ⟨k2, e2, _⟩ := DataW.trod_int u3 g2
  simp at e0 e1 e2
  exact ⟨⟨s, k1, k2⟩, by rw [e0, e1, e2]; rfl⟩

theorem struct_ev {e u : TypeId} {fs : Array Field} (he : P.underlying e = some (.struct fs)) (hC : P.cellsOf e = 6) (h0 : (fs[0]?).map (fun f => (f.type, f.offset)) = some (9, 0)) (h1 : (fs[1]?).map (fun f => (f.type, f.offset)) = some (3, 1)) (h2 : (fs[2]?).map (fun f => (f.type, f.offset)) = some (3, 2))
    (h3 : (fs[3]?).map (fun f => (f.type, f.offset)) = some (3, 3)) (h4 : (fs[4]?).map (fun f => (f.type, f.offset)) = some (u, 4)) (h5 : (fs[5]?).map (fun f => (f.type, f.offset)) = some (3, 5))
    (c9 : P.cellsOf 9 = 1) (c3 : P.cellsOf 3 = 1) (cu : P.cellsOf u = 1) (u9 : P.underlying 9 = some .string) (u3 : P.underlying 3 = some (.int .i64)) (uu : P.underlying u = some (.int .u64)) :
    ∀ (n : Nat) (cs : List Value) (x : DataW H × List MemPlace), DataW.trod enc P w 0 (fun _ => true) true n e cs = some x → ∃ y : Ev, cs = y.cells := by
  intro n cs x hx
  obtain ⟨xs, m, _, _, hlen, hxl, hf⟩ := DataW.trod_struct he hx
  rw [hC] at hlen
  obtain ⟨a, b, c, d, e, g, rfl⟩ := six_of hlen
  obtain ⟨x0, g0⟩ := field_at hxl hf h0 c9
  obtain ⟨x1, g1⟩ := field_at hxl hf h1 c3
  obtain ⟨x2, g2⟩ := field_at hxl hf h2 c3
  obtain ⟨x3, g3⟩ := field_at hxl hf h3 c3
  obtain ⟨x4, g4⟩ := field_at hxl hf h4 cu
  obtain ⟨x5, g5⟩ := field_at hxl hf h5 c3
  obtain ⟨s, e0, _⟩ := DataW.trod_string u9 g0
  obtain ⟨k1, e1, _⟩ := DataW.trod_int u3 g1
  obtain ⟨k2, e2, _⟩ := DataW.trod_int u3 g2
  obtain ⟨k3, e3, _⟩ := DataW.trod_int u3 g3
  obtain ⟨k4, e4, _⟩ := DataW.trod_int uu g4
  obtain ⟨k5, e5, _⟩ := DataW.trod_int u3 g5
  simp at e0 e1 e2 e3 e4 e5
  exact ⟨⟨s, k1, k2, k3, k4, k5⟩, by rw [e0, e1, e2, e3, e4, e5]; rfl⟩

theorem okWide_arr' {r : Reach} {base n : Nat} {t e : TypeId} {v : Value} (ht : P.underlying t = some (.array n e)) (h : Value.okWide P w r base t v) : ∃ cs, v = .agg cs ∧ cs.size = P.cellsOf t := by
  simp only [Value.okWide, ht] at h
  obtain ⟨cs, h1, h2, _⟩ := h
  exact ⟨cs, h1, h2⟩

/-- an array of integers -/
theorem open_ints_arr {r : Reach} {b0 n : Nat} {t : TypeId} {v : Value} {d : DataW H} {p : List MemPlace} (ht : P.underlying t = some (.array n 3)) (hC : P.cellsOf t = n) (c3 : P.cellsOf 3 = 1) (u3 : P.underlying 3 = some (.int .i64))
    (hv : Value.okWide P w r b0 t v) (h : DataW.Trod enc P w 0 (fun _ => true) true t v d p) : ∃ ks : List Int, ks.length = n ∧ v = .agg (ks.map (Value.int .i64)).toArray := by
  obtain ⟨cs, rfl, hsz⟩ := okWide_arr' ht hv
  obtain ⟨fuel, hf⟩ := h
  obtain ⟨xs, m, _, _, hlen, hxl, hi⟩ := DataW.trod_array ht hf
  rw [hC] at hsz hlen
  rw [c3] at hi
  have hcs : (Value.agg cs).cells = cs := rfl
  rw [hcs] at hi hlen
  obtain ⟨ks, hkl, hks⟩ := list_of (R := fun i (k : Int) => cs.toList[i]? = some (.int .i64 k)) n (fun i him => by
    have h1 := hi i him
    rw [Nat.mul_one, List.getElem?_eq_getElem (by rw [hxl]; exact him)] at h1
    obtain ⟨k, ek, _⟩ := DataW.trod_int u3 h1
    have hil : i < cs.toList.length := by omega
    rw [List.drop_eq_getElem_cons hil] at ek
    simp only [List.take_succ_cons, List.take_zero, List.cons.injEq, and_true] at ek
    exact ⟨k, by rw [List.getElem?_eq_getElem hil, ek]⟩)
  refine ⟨ks, hkl, ?_⟩
  congr 1
  apply Array.ext'
  apply List.ext_getElem?
  intro i
  by_cases hin : i < n
  · rw [hks i (by omega)]
    simp [List.getElem?_eq_getElem (show i < ks.length by omega)]
  · rw [List.getElem?_eq_none (by omega), List.getElem?_eq_none (by simp; omega)]
end

theorem two_of {l : List Int} (h : l.length = 2) : ∃ a b, l = [a, b] := by
  match l, h with
  | [a, b], _ => exact ⟨a, b, rfl⟩
theorem threei_of {l : List Int} (h : l.length = 3) : ∃ a b c, l = [a, b, c] := by
  match l, h with
  | [a, b, c], _ => exact ⟨a, b, c, rfl⟩
end Go.Proofs.YthnodeicbicjcaaDoor
