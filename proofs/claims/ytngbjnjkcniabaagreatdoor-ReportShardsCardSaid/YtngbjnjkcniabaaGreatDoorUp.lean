/- Worlds that have only grown: nothing old has turned, draws only add up. -/
import Derived.Test.YtngbjnjkcniabaaGreatDoorNatW
import Derived.Sort.Grow
import Derived.Deep.Draws
namespace Go.Proofs.YtngbjnjkcniabaaGreatDoor
open Go.RowKit

structure Up (w w' : World) : Prop where
  b : Below w.heap.size w w'
  d : w.drawn ≤ w'.drawn
theorem Up.refl (w : World) : Up w w := ⟨Below.refl _ _, Nat.le_refl _⟩
theorem Up.trans {w w1 w2 : World} (h : Up w w1) (k : Up w1 w2) : Up w w2 := ⟨h.b.trans (k.b.mono h.b.size), Nat.le_trans h.d k.d⟩
theorem Up.drew {w w1 : World} (h : Up w w1) : Up w w1.drew := ⟨h.b.drew, Nat.le_succ_of_le h.d⟩
theorem Up.alloc {w w1 : World} (h : Up w w1) (o : Obj) : Up w (w1.alloc o) := ⟨h.b.alloc h.b.size o, h.d⟩
theorem Up.grown {w w1 : World} (h : Up w w1) : ∃ q os, w1 = Go.Sort.grow (w.drewN q) os := by
  obtain ⟨⟨h1, h2, h3, h4, h5⟩, h6⟩ := h
  refine ⟨w1.drawn - w.drawn, w1.heap.extract w.heap.size w1.heap.size, ?_⟩
  have hh : w.heap ++ w1.heap.extract w.heap.size w1.heap.size = w1.heap := by
    apply Array.ext_getElem?
    intro k
    by_cases hk : k < w.heap.size
    · rw [Array.getElem?_append_left hk, ← h5 k hk]
    · rw [Array.getElem?_append_right (by omega), Array.getElem?_extract]
      by_cases hk2 : k < w1.heap.size
      · rw [if_pos (by omega)]
        congr 1
        omega
      · rw [if_neg (by omega), Array.getElem?_eq_none (by omega)]
  have hd : w.drawn + (w1.drawn - w.drawn) = w1.drawn := by omega
  cases w1 with
  | mk heap tape drawn os output =>
    cases w with
    | mk heap' tape' drawn' os' output' =>
      simp only at h1 h2 h3 hh hd
      subst h1 h2 h3
      simp only [Go.Sort.grow, World.drewN, hh, hd]
end Go.Proofs.YtngbjnjkcniabaaGreatDoor
