/- Plain laws on sorted lists in natural order: what is sorted and cleared of neighbours that are equal is the document's insertion. No program in sight. -/
import Derived.Test.YtngbjnjkcniabaaGreatDoorNatO
import Derived.Lib.SlicesCompact
import Derived.Shelf.SlSortCmp.Insertion
namespace Go.Proofs.YtngbjnjkcniabaaGreatDoor
open Go.RowKit

abbrev Bs := List UInt8
/-- strictly ascending -/
def Asc (l : List Bs) : Prop := l.Pairwise (fun x y => natC x y < 0)
theorem lt_irr {x : Bs} (h : natC x x < 0) : False := by have := natC_po.refl x; omega
theorem lt_asy {x y : Bs} (h : natC x y < 0) (k : natC y x < 0) : False := by have := natC_po.anti x y; omega
theorem lt_tr {x y z : Bs} (h : natC x y < 0) (k : natC y z < 0) : natC x z < 0 := natC_po.lt_le h (by omega)

theorem asc_ext : ∀ (l m : List Bs), Asc l → Asc m → (∀ x, x ∈ l ↔ x ∈ m) → l = m
  | [], [], _, _, _ => rfl
  | [], y :: m, _, _, h => by have := (h y).2 (List.mem_cons_self ..); simp at this
  | x :: l, [], _, _, h => by have := (h x).1 (List.mem_cons_self ..); simp at this
  | x :: l, y :: m, hl, hm, h => by
    unfold Asc at hl hm
    rw [List.pairwise_cons] at hl hm
    have e : x = y := by
      rcases List.mem_cons.1 ((h x).1 (List.mem_cons_self ..)) with h1 | h1
      · exact h1
      · rcases List.mem_cons.1 ((h y).2 (List.mem_cons_self ..)) with h2 | h2
        · exact h2.symm
        · exact (lt_asy (hl.1 y h2) (hm.1 x h1)).elim
    subst e
    rw [asc_ext l m hl.2 hm.2 fun z => by
      constructor
      · intro hz
        rcases List.mem_cons.1 ((h z).1 (List.mem_cons_of_mem _ hz)) with rfl | h1
        · exact (lt_irr (hl.1 z hz)).elim
        · exact h1
      · intro hz
        rcases List.mem_cons.1 ((h z).2 (List.mem_cons_of_mem _ hz)) with rfl | h1
        · exact (lt_irr (hm.1 z hz)).elim
        · exact h1]

/-- the place where the document inserts -/
def atT (x : Bs) (out : List Bs) : Nat → Nat
  | 0 => 0
  | k + 1 => if natC x (out.getD k []) < 0 then atT x out k else k + 1
theorem atT_le (x : Bs) (out : List Bs) : ∀ k, atT x out k ≤ k
  | 0 => Nat.le_refl _
  | k + 1 => by
    rw [atT]
    have := atT_le x out k
    split <;> omega
theorem atT_above (x : Bs) (out : List Bs) : ∀ k j, atT x out k ≤ j → j < k → natC x (out.getD j []) < 0
  | 0, j, _, h => by omega
  | k + 1, j, h1, h2 => by
    rw [atT] at h1
    by_cases hc : natC x (out.getD k []) < 0
    · rw [if_pos hc] at h1
      by_cases hj : j = k
      · subst hj; exact hc
      · exact atT_above x out k j h1 (by omega)
    · rw [if_neg hc] at h1; omega
theorem atT_below (x : Bs) (out : List Bs) : ∀ k j, j + 1 = atT x out k → ¬ natC x (out.getD j []) < 0
  | 0, j, h => by rw [atT] at h; omega
  | k + 1, j, h => by
    rw [atT] at h
    by_cases hc : natC x (out.getD k []) < 0
    · rw [if_pos hc] at h; exact atT_below x out k j h
    · rw [if_neg hc] at h
      have : j = k := by omega
      subst this; exact hc
def insR (x : Bs) (out : List Bs) : List Bs :=
  if 0 < atT x out out.length ∧ out.getD (atT x out out.length - 1) [] = x then out else out.take (atT x out out.length) ++ x :: out.drop (atT x out out.length)

theorem getD_mem {l : List Bs} {j : Nat} (h : j < l.length) : l.getD j [] ∈ l := by
  rw [List.getD, List.getElem?_eq_getElem h]; exact List.getElem_mem h
theorem mem_getD {l : List Bs} {x : Bs} (h : x ∈ l) : ∃ j, j < l.length ∧ l.getD j [] = x := by
  obtain ⟨j, hj, rfl⟩ := List.mem_iff_getElem.1 h
  exact ⟨j, hj, by rw [List.getD, List.getElem?_eq_getElem hj]; rfl⟩
theorem asc_getD {l : List Bs} (h : Asc l) {i j : Nat} (hij : i < j) (hj : j < l.length) : natC (l.getD i []) (l.getD j []) < 0 := by
  have := List.pairwise_iff_getElem.1 h i j (by omega) hj hij
  rw [List.getD, List.getD, List.getElem?_eq_getElem hj, List.getElem?_eq_getElem (show i < l.length by omega)]
  exact this

theorem insR_asc (x : Bs) (out : List Bs) (h : Asc out) : Asc (insR x out) ∧ ∀ y, y ∈ insR x out ↔ y = x ∨ y ∈ out := by
  have hle := atT_le x out out.length
  have hab := atT_above x out out.length
  have hbl := atT_below x out out.length
  unfold insR
  generalize atT x out out.length = a at *
  by_cases hc : 0 < a ∧ out.getD (a - 1) [] = x
  · rw [if_pos hc]
    refine ⟨h, fun y => ⟨.inr, ?_⟩⟩
    rintro (rfl | hy)
    · rw [← hc.2]; exact getD_mem (by omega)
    · exact hy
  · rw [if_neg hc]
    have h' : Asc (out.take a ++ out.drop a) := by rw [List.take_append_drop]; exact h
    obtain ⟨p1, p2, p3⟩ := List.pairwise_append.1 h'
    refine ⟨List.pairwise_append.2 ⟨p1, List.pairwise_cons.2 ⟨?_, p2⟩, ?_⟩, ?_⟩
    · intro y hy
      obtain ⟨j, hj, rfl⟩ := List.mem_iff_getElem.1 hy
      rw [List.length_drop] at hj
      have := hab (a + j) (by omega) (by omega)
      rw [List.getD, List.getElem?_eq_getElem (by omega)] at this
      rw [List.getElem_drop]
      exact this
    · have hx : ∀ y ∈ out.take a, natC y x < 0 := by
        intro y hy
        by_cases ha : a = 0
        · subst ha; simp at hy
        · have h1 := hbl (a - 1) (by omega)
          have h2 : natC (out.getD (a - 1) []) x < 0 := by
            have b := natC_po.anti x (out.getD (a - 1) [])
            have e : natC (out.getD (a - 1) []) x ≠ 0 := fun e => hc ⟨by omega, natC_eq e⟩
            omega
          obtain ⟨j, hj, rfl⟩ := List.mem_iff_getElem.1 hy
          rw [List.length_take] at hj
          rw [List.getElem_take]
          by_cases hj2 : j = a - 1
          · subst hj2
            rw [List.getD, List.getElem?_eq_getElem (by omega)] at h2
            exact h2
          · have h3 := asc_getD h (show j < a - 1 by omega) (by omega)
            rw [List.getD, List.getElem?_eq_getElem (by omega)] at h3
            exact lt_tr h3 h2
      intro y hy z hz
      rcases List.mem_cons.1 hz with rfl | hz
      · exact hx y hy
      · exact p3 y hy z hz
    · intro y
      rw [List.mem_append, List.mem_cons]
      constructor
      · rintro (h1 | h1 | h1)
        · exact .inr (List.mem_of_mem_take h1)
        · exact .inl h1
        · exact .inr (List.mem_of_mem_drop h1)
      · rintro (h1 | h1)
        · exact .inr (.inl h1)
        · rw [← List.take_append_drop a out] at h1
          rcases List.mem_append.1 h1 with h1 | h1
          · exact .inl h1
          · exact .inr (.inr h1)

/-- the document's sorting, up to a number of names -/
def sortTo (l : List Bs) : Nat → List Bs
  | 0 => []
  | k + 1 => insR (l.getD k []) (sortTo l k)
def sortF (l : List Bs) : List Bs := sortTo l l.length
theorem sortTo_asc (l : List Bs) : ∀ k, k ≤ l.length → Asc (sortTo l k) ∧ ∀ y, y ∈ sortTo l k ↔ y ∈ l.take k
  | 0, _ => ⟨List.Pairwise.nil, fun y => by simp [sortTo]⟩
  | k + 1, hk => by
    obtain ⟨h1, h2⟩ := sortTo_asc l k (by omega)
    obtain ⟨h3, h4⟩ := insR_asc (l.getD k []) (sortTo l k) h1
    refine ⟨h3, fun y => ?_⟩
    rw [sortTo, h4, h2, List.take_succ_eq_append_getElem (show k < l.length by omega), List.mem_append, List.mem_singleton, List.getD, List.getElem?_eq_getElem (show k < l.length by omega)]
    exact ⟨fun h => h.symm, fun h => h.symm⟩
theorem sortF_asc (l : List Bs) : Asc (sortF l) ∧ ∀ y, y ∈ sortF l ↔ y ∈ l := by
  have := sortTo_asc l l.length (Nat.le_refl _)
  rw [List.take_length] at this
  exact this
theorem insR_len (x : Bs) (out : List Bs) : (insR x out).length ≤ out.length + 1 := by
  unfold insR
  split
  · omega
  · rw [List.length_append, List.length_cons, List.length_take, List.length_drop]; omega
theorem sortTo_len (l : List Bs) : ∀ k, (sortTo l k).length ≤ k
  | 0 => Nat.le_refl _
  | k + 1 => by
    rw [sortTo]
    have := insR_len (l.getD k []) (sortTo l k)
    have := sortTo_len l k
    omega

open Go.Sort in
/-- 'less' by natural order is a strict weak order -/
theorem nat_swo : SWO (ltOf natC) where
  irrefl x := by unfold ltOf; rw [natC_po.refl]; rfl
  trans x y z h1 h2 := by
    unfold ltOf at *
    rw [decide_eq_true_eq] at *
    exact lt_tr h1 h2
  ntrans x y z h1 h2 := by
    unfold ltOf at *
    rw [decide_eq_false_iff_not] at *
    have t := natC_po.trans z y x
    have a1 := natC_po.anti x y
    have a2 := natC_po.anti y z
    have a3 := natC_po.anti x z
    omega

open Go.Lib in
theorem compact_asc (d : Array Bs) (hs : ∀ i j, i < j → j < d.size → natC d[i]! d[j]! ≤ 0) : ∀ m, m ≤ d.size →
    Asc (compactUpTo d m) ∧ (∀ x, x ∈ compactUpTo d m ↔ ∃ j, j < m ∧ d[j]! = x) ∧ (∀ x ∈ compactUpTo d m, 0 < m → natC x d[m - 1]! ≤ 0)
  | 0, _ => ⟨by simp [compactUpTo, Asc], by simp [compactUpTo], fun _ _ h => by omega⟩
  | m + 1, hm => by
    obtain ⟨h1, h2, h3⟩ := compact_asc d hs m (by omega)
    rw [compactUpTo_succ, Nat.add_sub_cancel]
    by_cases hk : keeps d m = true
    · rw [if_pos hk]
      have hlt : ∀ x ∈ compactUpTo d m, natC x d[m]! < 0 := by
        intro x hx
        obtain ⟨j, hj, _⟩ := (h2 x).1 hx
        have hx3 := h3 x hx (by omega)
        have hne : d[m]! ≠ d[m - 1]! := by
          have := of_decide_eq_true hk
          rcases this with h | h
          · omega
          · exact h
        have hle := hs (m - 1) m (by omega) (by omega)
        have hn0 : natC d[m - 1]! d[m]! ≠ 0 := fun e => hne (natC_eq e).symm
        exact natC_po.le_lt hx3 (by omega)
      refine ⟨?_, fun x => ?_, fun x hx _ => ?_⟩
      · unfold Asc
        rw [List.pairwise_append]
        refine ⟨h1, List.pairwise_singleton _ _, fun x hx y hy => ?_⟩
        rw [List.mem_singleton] at hy
        subst hy
        exact hlt x hx
      · rw [List.mem_append, List.mem_singleton, h2]
        constructor
        · rintro (⟨j, hj, e⟩ | e)
          · exact ⟨j, by omega, e⟩
          · exact ⟨m, by omega, e.symm⟩
        · rintro ⟨j, hj, e⟩
          by_cases hjm : j = m
          · subst hjm; exact .inr e.symm
          · exact .inl ⟨j, by omega, e⟩
      · rcases List.mem_append.1 hx with hx | hx
        · have := hlt x hx; omega
        · rw [List.mem_singleton] at hx
          subst hx
          rw [natC_po.refl]; exact Int.le_refl _
    · rw [if_neg hk, List.append_nil]
      have heq : 0 < m ∧ d[m]! = d[m - 1]! := by
        have := of_decide_eq_false (by simpa using hk : keeps d m = false)
        by_cases h0 : m = 0
        · exact absurd (.inl h0) this
        · refine ⟨by omega, ?_⟩
          by_cases he : d[m]! = d[m - 1]!
          · exact he
          · exact absurd (.inr he) this
      refine ⟨h1, fun x => ?_, fun x hx _ => ?_⟩
      · rw [h2]
        constructor
        · rintro ⟨j, hj, e⟩; exact ⟨j, by omega, e⟩
        · rintro ⟨j, hj, e⟩
          by_cases hjm : j = m
          · subst hjm; exact ⟨j - 1, by omega, by rw [← heq.2]; exact e⟩
          · exact ⟨j, by omega, e⟩
      · rw [heq.2]; exact h3 x hx heq.1

open Go.Lib Go.Sort in
/-- what is sorted, then cleared of equal neighbours, is the document's list -/
theorem compact_sorted (l : List Bs) (d : Array Bs) (hp : PermIn 0 l.toArray.size l.toArray d) (hs : SortedIn (ltOf natC) 0 l.toArray.size d) : compactUpTo d d.size = sortF l := by
  obtain ⟨hz, _, hperm⟩ := hp
  have hmem : ∀ x, x ∈ d.toList ↔ x ∈ l := by
    intro x
    rw [← hz] at hperm
    rw [Array.extract_size, hz, Array.extract_size] at hperm
    exact hperm.mem_iff
  have hle : ∀ i j, i < j → j < d.size → natC d[i]! d[j]! ≤ 0 := by
    intro i j hij hj
    have := hs i j (Nat.zero_le _) hij (by rw [← hz]; exact hj)
    unfold ltOf at this
    rw [decide_eq_false_iff_not] at this
    have := natC_po.anti d[i]! d[j]!
    omega
  obtain ⟨h1, h2, _⟩ := compact_asc d hle d.size (Nat.le_refl _)
  obtain ⟨h3, h4⟩ := sortF_asc l
  refine asc_ext _ _ h1 h3 fun x => ?_
  rw [h2, h4, ← hmem, Array.mem_toList_iff, Array.mem_iff_getElem]
  constructor
  · rintro ⟨j, hj, e⟩; exact ⟨j, hj, by rw [← e, getElem!_pos d j hj]⟩
  · rintro ⟨j, hj, e⟩; exact ⟨j, hj, by rw [getElem!_pos d j hj]; exact e⟩

/-- ascending, up to a number of names -/
def ascTo (l : List Bs) (k : Nat) : Bool := (List.range k).all fun i => decide (i = 0) || decide (natC (l.getD (i - 1) []) (l.getD i []) < 0)
def ascF (l : List Bs) : Bool := ascTo l l.length
theorem ascTo_succ (l : List Bs) (k : Nat) : ascTo l (k + 1) = (ascTo l k && (decide (k = 0) || decide (natC (l.getD (k - 1) []) (l.getD k []) < 0))) := by
  unfold ascTo; rw [List.range_succ]; simp
theorem ascTo_no {l : List Bs} {k n : Nat} (h : (decide (k = 0) || decide (natC (l.getD (k - 1) []) (l.getD k []) < 0)) = false) (hk : k < n) : ascTo l n = false := by
  unfold ascTo
  rw [Bool.eq_false_iff]
  intro h2
  have := List.all_eq_true.1 h2 k (List.mem_range.2 hk)
  rw [h] at this
  cases this
theorem asc_ascF {l : List Bs} (h : Asc l) : ascF l = true := by
  unfold ascF ascTo
  rw [List.all_eq_true]
  intro i hi
  rw [List.mem_range] at hi
  by_cases h0 : i = 0
  · simp [h0]
  · have := asc_getD h (show i - 1 < i by omega) hi
    rw [decide_eq_true this, Bool.or_true]
end Go.Proofs.YtngbjnjkcniabaaGreatDoor
