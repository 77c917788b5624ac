/- Two patterns that match the same string reach the end together. No program in sight. -/
import Derived.Test.YtnmbabaihfdljaaPlain4
import Derived.Test.YtnmbabaihfdljaaGraph
namespace Go.Proofs.Ytnmbabaihfdljaa
open Bs

theorem sucA_left {A B : List AE} {i j : Nat} (hi : i < A.length) (hm : (A.getD i noA).1 = true) : (i + 1, j) ∈ sucA A B (i, j) := by
  unfold sucA
  simp only [List.mem_append]
  left; left
  rw [if_pos ⟨hi, hm⟩]
  simp

theorem sucA_right {A B : List AE} {i j : Nat} (hj : j < B.length) (hm : (B.getD j noA).1 = true) : (i, j + 1) ∈ sucA A B (i, j) := by
  unfold sucA
  simp only [List.mem_append]
  left; right
  rw [if_pos ⟨hj, hm⟩]
  simp

theorem meetA_of {a b : AE} {c : Nat} (hc : c < 256) (h1 : a.2 c = true) (h2 : b.2 c = true) : meetA a b = true := by
  unfold meetA
  rw [List.any_eq_true]
  exact ⟨c, by simpa using hc, by rw [h1, h2]; rfl⟩

theorem meetA_some {a b : AE} (h : meetA a b = true) : ∃ c, c < 256 ∧ a.2 c = true ∧ b.2 c = true := by
  unfold meetA at h
  rw [List.any_eq_true] at h
  obtain ⟨c, hc, h⟩ := h
  rw [Bool.and_eq_true] at h
  exact ⟨c, by simpa using hc, h.1, h.2⟩

theorem sucA_both {A B : List AE} {i j : Nat} (hi : i < A.length) (hj : j < B.length) (hm : meetA (A.getD i noA) (B.getD j noA) = true) :
    (if (A.getD i noA).1 then i else i + 1, if (B.getD j noA).1 then j else j + 1) ∈ sucA A B (i, j) := by
  unfold sucA
  simp only [List.mem_append]
  right
  rw [if_pos ⟨hi, hj, hm⟩]
  exact List.mem_singleton.2 rfl

/-- what a place is followed by -/
theorem sucA_cases {A B : List AE} {p r : Nat × Nat} (h : r ∈ sucA A B p) :
    (p.1 < A.length ∧ (A.getD p.1 noA).1 = true ∧ r = (p.1 + 1, p.2)) ∨ (p.2 < B.length ∧ (B.getD p.2 noA).1 = true ∧ r = (p.1, p.2 + 1)) ∨
    (p.1 < A.length ∧ p.2 < B.length ∧ meetA (A.getD p.1 noA) (B.getD p.2 noA) = true ∧ r = (if (A.getD p.1 noA).1 then p.1 else p.1 + 1, if (B.getD p.2 noA).1 then p.2 else p.2 + 1)) := by
  unfold sucA at h
  simp only [List.mem_append] at h
  rcases h with (h | h) | h <;> split at h
  · rename_i hc; exact .inl ⟨hc.1, hc.2, by simpa using h⟩
  · cases h
  · rename_i hc; exact .inr (.inl ⟨hc.1, hc.2, by simpa using h⟩)
  · cases h
  · rename_i hc; exact .inr (.inr ⟨hc.1, hc.2.1, hc.2.2, List.mem_singleton.1 h⟩)
  · cases h

theorem meetA_comm (a b : AE) : meetA a b = meetA b a := by
  unfold meetA
  congr 1
  funext c
  exact Bool.and_comm _ _

theorem Reach.swap_ {A B : List AE} {p : Nat × Nat} (h : Reach A B p) : Reach B A (p.2, p.1) := by
  refine h (fun p => Reach B A (p.2, p.1)) (Reach.zero _ _) fun p r hp hr => ?_
  obtain ⟨i, j⟩ := p
  rcases sucA_cases hr with ⟨h1, h2, rfl⟩ | ⟨h1, h2, rfl⟩ | ⟨h1, h2, h3, rfl⟩
  · exact hp.step (sucA_right h1 h2)
  · exact hp.step (sucA_left h1 h2)
  · exact hp.step (sucA_both h2 h1 (by rw [meetA_comm]; exact h3))

theorem reach_swap {A B : List AE} {i j : Nat} : Reach A B (i, j) ↔ Reach B A (j, i) := ⟨fun h => h.swap_, fun h => h.swap_⟩

theorem meetA_alike {A A' B B' : List AE} (hA : Alike A A') (hB : Alike B B') (i j : Nat) (h : meetA (A.getD i noA) (B.getD j noA) = true) : meetA (A'.getD i noA) (B'.getD j noA) = true := by
  obtain ⟨c, hc, h1, h2⟩ := meetA_some h
  exact meetA_of hc (by rw [← hA.fits i c hc]; exact h1) (by rw [← hB.fits j c hc]; exact h2)

theorem Reach.alike {A A' B B' : List AE} (hA : Alike A A') (hB : Alike B B') {p : Nat × Nat} (h : Reach A B p) : Reach A' B' p := by
  refine h (fun p => Reach A' B' p) (Reach.zero _ _) fun p r hp hr => ?_
  obtain ⟨i, j⟩ := p
  rcases sucA_cases hr with ⟨h1, h2, rfl⟩ | ⟨h1, h2, rfl⟩ | ⟨h1, h2, h3, rfl⟩
  · exact hp.step (sucA_left (hA.len ▸ h1) ((hA.many i).symm.trans h2))
  · exact hp.step (sucA_right (hB.len ▸ h1) ((hB.many j).symm.trans h2))
  · have := hp.step (sucA_both (hA.len ▸ h1) (hB.len ▸ h2) (meetA_alike hA hB i j h3))
    simp only at this ⊢
    rw [hA.many i, hB.many j]
    exact this

theorem Alike.symm_ {A B : List AE} (h : Alike A B) : Alike B A := ⟨h.len.symm, fun i => (h.many i).symm, fun i c hc => (h.fits i c hc).symm⟩

theorem both_onAt {A B : List AE} {l : List UInt8} : ∀ k, k ≤ l.length → ∀ i j, (closeTo A (onAt A l k) A.length).getD i false = true → (closeTo B (onAt B l k) B.length).getD j false = true → Reach A B (i, j) := by
  have close : ∀ (a b : List Bool), (∀ i j, a.getD i false = true → b.getD j false = true → Reach A B (i, j)) →
      ∀ i j, (closeTo A a A.length).getD i false = true → (closeTo B b B.length).getD j false = true → Reach A B (i, j) := by
    intro a b h i j hi hj
    refine closeTo_ind (A := A) (on := a) (R := fun i => Reach A B (i, j)) ?_ (fun i hi hm h => h.step (sucA_left hi hm)) _ (Nat.le_refl _) i hi
    intro i hi
    exact closeTo_ind (A := B) (on := b) (R := fun j => Reach A B (i, j)) (fun j hj => h i j hi hj) (fun j hj hm h => h.step (sucA_right hj hm)) _ (Nat.le_refl _) j hj
  intro k
  induction k with
  | zero =>
    intro _
    apply close
    intro i j hi hj
    have z : ∀ (X : List AE) i, (onAt X l 0).getD i false = true → i = 0 := by
      intro X i h
      rw [onAt, getD_set] at h
      simp only [Bool.or_eq_true, Bool.and_eq_true, decide_eq_true_eq] at h
      rcases h with h | ⟨rfl, _⟩
      · simp only [List.getD, List.getElem?_replicate] at h
        split at h <;> simp at h
      · rfl
    rw [z A i hi, z B j hj]
    exact Reach.zero _ _
  | succ k ih =>
    intro hk
    apply close
    intro i j hi hj
    rw [onAt] at hi hj
    obtain ⟨i', h1, h2, h3, rfl⟩ := stepTo_inv _ (Nat.le_refl _) i hi
    obtain ⟨j', g1, g2, g3, rfl⟩ := stepTo_inv _ (Nat.le_refl _) j hj
    exact (ih (by omega) i' j' h2 g2).step (sucA_both h1 g1 (meetA_of (UInt8.toNat_lt _) h3 g3))

theorem both_match {A B : List AE} {l : List UInt8} (h1 : matchF A l = true) (h2 : matchF B l = true) : Reach A B (A.length, B.length) :=
  both_onAt _ (Nat.le_refl _) _ _ h1 h2
end Go.Proofs.Ytnmbabaihfdljaa
