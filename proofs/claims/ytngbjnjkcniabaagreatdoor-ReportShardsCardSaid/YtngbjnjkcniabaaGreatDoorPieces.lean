/- The pieces of a path, and its names: plain facts, no program in sight. -/
import Derived.Lib.SplitLaws
import Derived.Test.YtngbjnjkcniabaaGreatDoorBase
namespace Go.Proofs.YtngbjnjkcniabaaGreatDoor

/-- l cut at every c -/
def pcs (c : UInt8) : List UInt8 → List (List UInt8)
  | [] => [[]]
  | b :: l => if b = c then [] :: pcs c l else (b :: (pcs c l).headD []) :: (pcs c l).tail

theorem pcs_ne (c : UInt8) (l : List UInt8) : pcs c l = (pcs c l).headD [] :: (pcs c l).tail := by
  cases l with
  | nil => rfl
  | cons b l => rw [pcs]; split <;> rfl

theorem idx_nil (c : UInt8) : Lib.index [] [c] = -1 := by simp [Lib.index]
theorem idx_eq (c : UInt8) (l : List UInt8) : Lib.index (c :: l) [c] = 0 := by rw [Lib.index]; simp [List.isPrefixOf]
theorem idx_ne {b c : UInt8} (h : b ≠ c) (l : List UInt8) : Lib.index (b :: l) [c] = if Lib.index l [c] == -1 then -1 else Lib.index l [c] + 1 := by
  have hp : ([c] : List UInt8).isPrefixOf (b :: l) = false := by simp [List.isPrefixOf, Ne.symm h]
  rw [Lib.index, hp]; simp

theorem pcs_none (c : UInt8) : ∀ l : List UInt8, Lib.index l [c] = -1 → pcs c l = [l]
  | [], _ => rfl
  | b :: l, h => by
    by_cases e : b = c
    · subst e; rw [idx_eq] at h; cases h
    · rw [idx_ne e] at h
      have h1 : Lib.index l [c] = -1 := by
        by_cases h2 : Lib.index l [c] = -1
        · exact h2
        · rw [if_neg (by simpa using h2)] at h
          have := Lib.index_ge l [c]
          omega
      rw [pcs, if_neg e, pcs_none c l h1]; rfl

theorem pcs_some (c : UInt8) : ∀ (l : List UInt8) (i : Nat), Lib.index l [c] = i → pcs c l = l.take i :: pcs c (l.drop (i + 1))
  | [], i, h => by rw [idx_nil] at h; omega
  | b :: l, i, h => by
    by_cases e : b = c
    · subst e
      rw [idx_eq] at h
      obtain rfl : i = 0 := by omega
      rw [pcs, if_pos rfl]; rfl
    · rw [idx_ne e] at h
      by_cases h2 : Lib.index l [c] = -1
      · rw [if_pos (by simpa using h2)] at h; omega
      · rw [if_neg (by simpa using h2)] at h
        have := Lib.index_ge l [c]
        obtain ⟨j, rfl⟩ : ∃ j, i = j + 1 := ⟨i - 1, by omega⟩
        have ih := pcs_some c l j (by omega)
        rw [pcs, if_neg e, ih]; rfl

theorem splitK_pcs (c : UInt8) : ∀ (k : Nat) (l : List UInt8), Lib.count l [c] ≤ k → Lib.splitK [c] 0 k l = pcs c l
  | 0, l, h => by
    have : Lib.index l [c] = -1 := by
      by_cases h2 : Lib.index l [c] = -1
      · exact h2
      · have hg := Lib.index_ge l [c]
        obtain ⟨j, hj⟩ : ∃ j : Nat, Lib.index l [c] = j := ⟨(Lib.index l [c]).toNat, by omega⟩
        have := Lib.count_hit (by simp) hj
        omega
    rw [pcs_none c l this]; rfl
  | k + 1, l, h => by
    rw [Lib.splitK]
    by_cases h2 : Lib.index l [c] = -1
    · rw [if_pos (by simpa using h2), pcs_none c l h2]
    · rw [if_neg (by simpa using h2)]
      have hg := Lib.index_ge l [c]
      obtain ⟨j, hj⟩ : ∃ j : Nat, Lib.index l [c] = j := ⟨(Lib.index l [c]).toNat, by omega⟩
      have hc := Lib.count_hit (by simp) hj
      rw [hj, pcs_some c l j hj]
      have ih := splitK_pcs c k (l.drop (j + 1)) (by simp at hc; omega)
      simp only [Int.toNat_natCast, Nat.add_zero, List.length_cons, List.length_nil, Nat.zero_add]
      rw [ih]

/-- a piece under way, put ahead of the first -/
def glue (p : List UInt8) (L : List (List UInt8)) : List (List UInt8) := (p ++ L.headD []) :: L.tail

theorem glue_nil (c : UInt8) (l : List UInt8) : glue [] (pcs c l) = pcs c l := by
  unfold glue; rw [List.nil_append]; exact (pcs_ne c l).symm

theorem glue_hit (c : UInt8) (p l : List UInt8) : glue p (pcs c (c :: l)) = p :: glue [] (pcs c l) := by
  rw [glue_nil, pcs, if_pos rfl]; unfold glue; simp

theorem glue_miss {b c : UInt8} (h : b ≠ c) (p l : List UInt8) : glue p (pcs c (b :: l)) = glue (p ++ [b]) (pcs c l) := by
  rw [pcs, if_neg h]; unfold glue; simp

theorem glue_end (c : UInt8) (p : List UInt8) : glue p (pcs c []) = [p] := by unfold glue; simp [pcs]

theorem pcs_len (c : UInt8) : ∀ l : List UInt8, (pcs c l).length ≤ l.length + 1
  | [] => by simp [pcs]
  | b :: l => by
    have := pcs_len c l
    have hn := pcs_ne c l
    rw [pcs]
    split
    · simp; omega
    · rw [hn] at this; simp at this ⊢; omega

theorem pcs_small (c : UInt8) : ∀ l : List UInt8, ∀ p ∈ pcs c l, p.length ≤ l.length
  | [], p, h => by simp [pcs] at h; subst h; simp
  | b :: l, p, h => by
    have ih := pcs_small c l
    have hn := pcs_ne c l
    rw [pcs] at h
    split at h
    · rcases List.mem_cons.1 h with rfl | h
      · simp
      · have := ih p h; simp; omega
    · rcases List.mem_cons.1 h with rfl | h
      · have := ih ((pcs c l).headD []) (by rw [hn]; exact List.mem_cons_self)
        simp only [List.length_cons]; omega
      · have := ih p (by rw [hn]; exact List.mem_cons_of_mem _ h)
        simp only [List.length_cons]; omega

/-- a byte of a name's head; of a name -/
def letF (c : UInt8) : Bool := (decide (97 ≤ c.toNat) && decide (c.toNat ≤ 122)) || (decide (48 ≤ c.toNat) && decide (c.toNat ≤ 57))
def punF (c : UInt8) : Bool := decide (c.toNat = 95) || decide (c.toNat = 45) || decide (c.toNat = 46)
/-- is the byte at index i in order? -/
def atF (l : List UInt8) (i : Nat) : Bool := letF (l.getD i 0) || (decide (0 < i) && punF (l.getD i 0))
def nameF (l : List UInt8) : Bool := decide (0 < l.length) && decide (l.length ≤ 64) && (List.range l.length).all (atF l)
def pathF (l : List UInt8) : Bool := (pcs 47 l).all nameF
/-- the number of Parts' error -/
def partsF (l : List UInt8) : Nat := if 512 < l.length then 3 else if pathF l then 0 else 1
end Go.Proofs.YtngbjnjkcniabaaGreatDoor
