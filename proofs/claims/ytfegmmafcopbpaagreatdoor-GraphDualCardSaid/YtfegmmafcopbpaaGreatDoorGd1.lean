/- Above and Below are inverses of each other; a node depends on itself only if there is a cycle: in plain words. -/
import Derived.Test.YtfegmmafcopbpaaGreatDoorGr
namespace Go.Proofs.YtfegmmafcopbpaaGreatDoor

theorem mem_aboveF {G : Gr} {a b : Bs} : b ∈ aboveF G a ↔ formedF G = 0 ∧ a ∈ idsG G ∧ b ∈ idsG G ∧ ∃ d, 1 ≤ d ∧ Walk (ab G) (posG G a) d (posG G b) := by
  unfold aboveF
  by_cases h : formedF G = 0
  · have hs := formed_sound h
    rw [if_neg (by simp [h])]
    unfold reachF
    by_cases ha : a ∈ idsG G
    · rw [if_pos ha, (sortF_asc _).2, mem_hitF (ab_in hs) hs.nodup]
      simp [h, ha]
    · rw [if_neg ha]; simp [ha]
  · rw [if_pos h]; simp [h]
theorem mem_belowF {G : Gr} {a b : Bs} : b ∈ belowF G a ↔ formedF G = 0 ∧ a ∈ idsG G ∧ b ∈ idsG G ∧ ∃ d, 1 ≤ d ∧ Walk (ab G) (posG G b) d (posG G a) := by
  unfold belowF
  by_cases h : formedF G = 0
  · have hs := formed_sound h
    rw [if_neg (by simp [h])]
    unfold reachF
    by_cases ha : a ∈ idsG G
    · rw [if_pos ha, (sortF_asc _).2, mem_hitF (be_in G) hs.nodup]
      simp [h, ha, walk_be hs]
    · rw [if_neg ha]; simp [ha]
  · rw [if_pos h]; simp [h]
theorem dual_same (G : Gr) (a b : Bs) : decide (b ∈ aboveF G a) = decide (a ∈ belowF G b) := by
  rw [decide_eq_decide, mem_aboveF, mem_belowF]
  constructor
  · rintro ⟨h1, h2, h3, h4⟩; exact ⟨h1, h3, h2, h4⟩
  · rintro ⟨h1, h2, h3, h4⟩; exact ⟨h1, h3, h2, h4⟩
theorem self_cycle {G : Gr} {a : Bs} (h : a ∈ aboveF G a) : validF G = 14 := by
  obtain ⟨h1, h2, _, d, hd, hw⟩ := mem_aboveF.1 h
  have hs := formed_sound h1
  unfold validF
  rw [if_neg (by simp [h1]), if_pos]
  refine Nat.lt_of_le_of_ne (ordG_listed G).len fun e => ?_
  exact listed_no_cycle hs (ord_all e (posG_lt h2)) ((cyc_walk hs).2 ⟨d, hd, hw⟩)
end Go.Proofs.YtfegmmafcopbpaaGreatDoor
