/- A list of nodes, opened, with what the form says of its size: nodes of at most 2^47 bytes, each with needs of at most 2^47 bytes. -/
import Derived.Test.YtfegmmafcopbpaaGreatDoorGopen
import Derived.SizedLaws
namespace Go.Proofs.YtfegmmafcopbpaaGreatDoor
open Go.ChangeShapes Go.WideShapes Go.Deep Go.RowKit

section
variable {H : Type} {enc : TypeId × Value → H} {P : Program} {w : World}

theorem weightsAll_in {e : TypeId} : ∀ {l : List (DataW H)} {d : DataW H}, d ∈ l → ∀ n ∈ d.weights P e, n ∈ DataW.weightsAll P e l
  | d' :: r, d, hd, n, hn => by
    simp only [DataW.weightsAll, List.mem_append]
    rcases List.mem_cons.1 hd with rfl | h
    · exact Or.inl hn
    · exact Or.inr (weightsAll_in h n hn)

/-- as 'open_strs_cell', and the form's bound on its bytes -/
theorem strs_reach {t : TypeId} (ht : P.underlying t = some (.slice 9)) (h9 : P.underlying 9 = some .string) (hc : P.cellsOf 9 = 1) {n : Nat} {cs : List Value} {x : DataW H × List MemPlace} (hf : DataW.trod enc P w 0 (fun _ => true) true n t cs = some x) (hw : ∀ k ∈ x.1.weights P t, k ≤ reachBytes) :
    ∀ ao len cap, cs = [.slice ao len cap] → len * P.bytesOf 9 ≤ reachBytes := by
  intro ao len cap hcs
  rcases open_strings ht h9 hc hf with ⟨hcs', _⟩ | ⟨a, len', cap', ss, hcs', _, hl, hm, hz, hx, _, _⟩
  · rw [hcs] at hcs'
    injection hcs' with hcs'
    injection hcs' with _ h2 _
    subst h2
    simp
  · rw [hcs] at hcs'
    injection hcs' with hcs'
    injection hcs' with _ h2 _
    subst h2
    simp only [if_true] at hz
    have h1 := hw ((((ss.take len).map fun s => (DataW.lit (.string s.data.toList) : DataW H)).length + ((ss.drop len).map fun s => (DataW.lit (.string s.data.toList) : DataW H)).length) * P.bytesOf 9) (by rw [hx]; simp [DataW.weights, ht, strs])
    refine Nat.le_trans (Nat.mul_le_mul_right _ ?_) h1
    simp
    omega

theorem nodes_reach {t e u : TypeId} {fs : Array Field} (ht : P.underlying t = some (.slice e)) (he : P.underlying e = some (.struct fs)) (hC : P.cellsOf e = 2) (h1 : (fs[1]?).map (fun f => (f.type, f.offset)) = some (u, 1))
    (c9 : P.cellsOf 9 = 1) (cu : P.cellsOf u = 1) (u9 : P.underlying 9 = some .string) (uu : P.underlying u = some (.slice 9))
    {ao : Option Addr} {len cap : Nat} {d : DataW H} {p : List MemPlace} (h : DataW.Trod enc P w 0 (fun _ => true) true t (.slice ao len cap) d p) (hw : ∀ k ∈ d.weights P t, k ≤ reachBytes) :
    len * P.bytesOf e ≤ reachBytes ∧ ∀ ns : List Nd, NdAt w (.slice ao len cap) ns → ∀ x ∈ ns, x.needs.length * P.bytesOf 9 ≤ reachBytes := by
  obtain ⟨fuel, hf⟩ := h
  rcases open_slice ht hf with ⟨hcs, _⟩ | ⟨a, len', cap', m, n, D, Pl, hcs, hb, hl, hm, hmm, hx, hi⟩
  · simp [Value.cells] at hcs
    obtain ⟨rfl, rfl, rfl⟩ := hcs
    refine ⟨by simp, fun ns hn x hx => ?_⟩
    rcases hn.sl with ⟨_, _, _, rfl⟩ | ⟨_, _, _, h2, _⟩
    · cases hx
    · cases h2
  · simp [Value.cells] at hcs
    obtain ⟨rfl, rfl, rfl⟩ := hcs
    simp only [if_true] at hmm
    have hxd := congrArg Prod.fst hx
    simp only at hxd
    subst hxd
    have hall : ∀ i, i < len → ∀ k ∈ (D i).weights P e, k ≤ reachBytes := fun i hi2 k hk => hw k (by
      simp only [DataW.weights, ht, List.mem_cons, List.mem_append]
      exact Or.inr (Or.inl (weightsAll_in (List.mem_map.2 ⟨i, List.mem_range.2 hi2, rfl⟩) k hk)))
    refine ⟨?_, fun ns hn x hx => ?_⟩
    · have h2 := hw ((((List.range len).map D).length + ((List.range (m - len)).map fun j => D (len + j)).length) * P.bytesOf e) (by simp [DataW.weights, ht])
      exact Nat.le_trans (Nat.mul_le_mul_right _ (by simp)) h2
    · obtain ⟨i, hil, rfl⟩ := List.getElem_of_mem hx
      rcases hn.sl with ⟨_, _, _, rfl⟩ | ⟨b, off, cap2, h2, hbl, hcell⟩
      · cases hil
      · injection h2 with e1 e2 e3
        injection e1 with e1
        subst e1 e2
        obtain ⟨cs', hc, ht'⟩ := hi i (by omega)
        obtain ⟨xs, m', _, hxa, hlen, hxl, hfl⟩ := DataW.trod_struct he ht'
        rw [hC] at hlen hc
        obtain ⟨va, vb, rfl⟩ := twoV_of hlen
        obtain ⟨_, hcl, hat⟩ := World.cells?_some hc
        have hadd : ∀ (o j : Nat), (⟨b, o, none⟩ : Addr).add j = ⟨b, o + j, none⟩ := by intro o j; unfold Addr.add; split <;> simp_all
        have hc1 := hat 1 (by decide)
        have hc2 := hcell i hil 1 ns[i].nv rfl
        rw [hadd, hadd] at hc1
        rw [hc2] at hc1
        simp at hc1
        subst hc1
        cases hf1 : fs[1]? with
        | none => rw [hf1] at h1; cases h1
        | some f =>
          rw [hf1] at h1
          simp only [Option.map_some, Option.some.injEq, Prod.mk.injEq] at h1
          have g1 := hfl 1 f hf1
          rw [h1.1, h1.2, cu] at g1
          have hi1 : 1 < xs.length := by rw [hxl]; exact (Array.getElem?_eq_some_iff.1 hf1).1
          rw [List.getElem?_eq_getElem hi1] at g1
          have hwd := hall i (by omega)
          have hDi := congrArg Prod.fst hxa
          simp only at hDi
          rw [hDi] at hwd
          have hst := hn.st _ (List.getElem_mem hil)
          obtain ⟨ao2, cap3, hv⟩ := hst.form
          refine strs_reach uu u9 c9 g1 (fun k hk => hwd k ?_) ao2 _ cap3 (by simp [hv])
          simp only [DataW.weights, he]
          refine DataW.weights_mem_each (j := 1) ?_ ?_ k hk
          · rw [List.getElem?_map, Array.getElem?_toList, hf1]
            simp [h1.1]
          · rw [List.getElem?_map, List.getElem?_eq_getElem hi1]
            rfl
theorem nodes_bound {t e u : TypeId} {fs : Array Field} (ht : P.underlying t = some (.slice e)) (he : P.underlying e = some (.struct fs)) (hC : P.cellsOf e = 2) (h1 : (fs[1]?).map (fun f => (f.type, f.offset)) = some (u, 1))
    (c9 : P.cellsOf 9 = 1) (cu : P.cellsOf u = 1) (u9 : P.underlying 9 = some .string) (uu : P.underlying u = some (.slice 9)) (be : P.bytesOf e = 40) (b9 : P.bytesOf 9 = 16)
    {ao : Option Addr} {len cap : Nat} {d : DataW H} {p : List MemPlace} (h : DataW.Trod enc P w 0 (fun _ => true) true t (.slice ao len cap) d p) (hw : ∀ k ∈ d.weights P t, k ≤ reachBytes) {ns : List Nd} (hat : NdAt w (.slice ao len cap) ns) :
    40 * ns.length ≤ 281474976710656 ∧ ∀ x ∈ ns, x.needs.length ≤ 8796093022208 := by
  obtain ⟨h2, h3⟩ := nodes_reach ht he hC h1 c9 cu u9 uu h hw
  have hl : ns.length = len := by
    obtain ⟨_, _, e⟩ := hat.sl.form
    injection e with _ e _
    exact e.symm
  have hr := reachBytes_lt
  rw [be] at h2
  refine ⟨by rw [hl]; omega, fun x hx => ?_⟩
  have h4 := h3 ns hat x hx
  rw [b9] at h4
  omega
end
end Go.Proofs.YtfegmmafcopbpaaGreatDoor
