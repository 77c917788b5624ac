/- A critical path is a path with its cost, and no chosen path costs more: in plain words. -/
import Derived.Test.YtfegmmafcopbpaaGreatDoorGr
namespace Go.Proofs.YtfegmmafcopbpaaGreatDoor

def sumC (G : Gr) (C : Nat → Nat) (p : List Bs) : Nat := (p.map fun b => C (posG G b)).sum
/-- each name is one that the next one needs -/
def ChainG (G : Gr) (p : List Bs) : Prop := ∀ j a b, p[j]? = some a → p[j + 1]? = some b → a ∈ needA G (posG G b)

theorem chain_cons {G : Gr} {a : Bs} {p : List Bs} (h : ChainG G p) (ha : ∀ b, p[0]? = some b → a ∈ needA G (posG G b)) : ChainG G (a :: p) := by
  intro j x y hx hy
  cases j with
  | zero =>
    simp only [List.getElem?_cons_zero, Option.some.injEq] at hx
    subst hx
    exact ha y (by simpa using hy)
  | succ j => exact h j x y (by simpa using hx) (by simpa using hy)
theorem path_facts {G : Gr} (hs : Sound G) (hf : (ordG G).length = G.length) (C : Nat → Nat) : ∀ (f i : Nat), i < G.length → G.length ≤ (ordG G).idxOf i + f →
    sumC G C (pathQ G (bestQ G C) C f i) = bestQ G C i ∧ ChainG G (pathQ G (bestQ G C) C f i) ∧ (pathQ G (bestQ G C) C f i)[0]? = some (idA G i) ∧ ∀ b ∈ pathQ G (bestQ G C) C f i, b ∈ idsG G := by
  intro f
  induction f with
  | zero =>
    intro i hi h1
    have := List.idxOf_lt_length_of_mem (ord_all hf hi)
    omega
  | succ f ih =>
    intro i hi h1
    have h3 := List.idxOf_lt_length_of_mem (ord_all hf hi)
    rw [pathQ]
    by_cases h4 : bestQ G C i = C i
    · rw [if_pos h4]
      refine ⟨by simp [sumC, posG_id hs.nodup hi, h4], fun j a b ha hb => by simp at hb, rfl, fun b hb => ?_⟩
      simp at hb
      subst hb
      exact idA_mem hi
    · rw [if_neg h4]
      have hge := crit_eq hs hf C hi
      obtain ⟨k, h5, h6, h7, h8⟩ := nxQ_some hs hf hi h4
      have hk := (List.mem_filter.1 (firstF_mem h5).1).2
      rw [decide_eq_true_eq] at hk
      rw [h5]
      simp only
      obtain ⟨a1, a2, a3, a4⟩ := ih k h7 (by omega)
      refine ⟨?_, chain_cons a2 fun b hb => ?_, rfl, fun b hb => ?_⟩
      · have : sumC G C (idA G i :: pathQ G (bestQ G C) C f k) = C i + sumC G C (pathQ G (bestQ G C) C f k) := by simp [sumC, posG_id hs.nodup hi]
        rw [this, a1, hk]
        omega
      · rw [a3] at hb
        injection hb with hb
        subst hb
        rw [posG_id hs.nodup h7]
        exact need_of_ab hs ((mem_be hs).1 h6)
      · rcases List.mem_cons.1 hb with rfl | hb
        · exact idA_mem hi
        · exact a4 b hb
theorem crit_facts {G : Gr} (hs : Sound G) (hf : (ordG G).length = G.length) (hpos : G.length ≠ 0) (C : Nat → Nat) :
    sumC G C (critF G C).2 = (critF G C).1 ∧ ChainG G (critF G C).2 ∧ (critF G C).2 ≠ [] ∧ ∀ b ∈ (critF G C).2, b ∈ idsG G := by
  obtain ⟨s, h1, h2, h3⟩ := startQ_some hpos (bestQ G C)
  unfold critF
  simp only [h1]
  obtain ⟨a1, a2, a3, a4⟩ := path_facts hs hf C G.length s h2 (by omega)
  exact ⟨a1.trans h3, a2, fun e => (by rw [e] at a3; cases a3), a4⟩
/-- one step on: what was paid is at most what is paid here at best -/
theorem way_step {G : Gr} (hs : Sound G) (hf : (ordG G).length = G.length) (C : Nat → Nat) {at_ k all : Nat} (hk : k ∈ ab G at_) (h : all ≤ bestQ G C at_) : all + C k ≤ bestQ G C k := by
  have h1 := crit_eq hs hf C (hs.ab_lt hk).1
  have h2 := maxQ_le (B := bestQ G C) ((mem_be hs).2 hk)
  omega
theorem way_first {G : Gr} (hs : Sound G) (hf : (ordG G).length = G.length) (C : Nat → Nat) {k : Nat} (hk : k < G.length) : C k ≤ bestQ G C k := by
  have h1 := crit_eq hs hf C hk
  omega
theorem way_most {G : Gr} (C : Nat → Nat) {k : Nat} (hk : k < G.length) : bestQ G C k ≤ (critF G C).1 := maxQ_le (List.mem_range.2 hk)
theorem crit_bound {G : Gr} {C : Nat → Nat} {D : Nat} (hC : ∀ k, C k ≤ D) (j : Nat) : bestQ G C j ≤ G.length * D := by
  have h1 := critTo_bound (G := G) hC (ordG G).reverse j
  rw [List.length_reverse] at h1
  exact Nat.le_trans h1 (Nat.mul_le_mul_right _ (ordG_listed G).len)
theorem most_bound {G : Gr} {C : Nat → Nat} {D : Nat} (hC : ∀ k, C k ≤ D) (hpos : G.length ≠ 0) : (critF G C).1 ≤ G.length * D := by
  obtain ⟨s, _, h2, h3⟩ := startQ_some hpos (bestQ G C)
  show mostQ G (bestQ G C) ≤ _
  rw [← h3]
  exact crit_bound hC s
end Go.Proofs.YtfegmmafcopbpaaGreatDoor
