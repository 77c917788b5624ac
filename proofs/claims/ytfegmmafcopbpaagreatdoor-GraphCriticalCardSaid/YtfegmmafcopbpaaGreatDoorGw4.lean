/- The walk over order: the topological order. -/
import Derived.Test.YtfegmmafcopbpaaGreatDoorGw1
import Derived.Test.YtfegmmafcopbpaaGreatDoorGw2
import Derived.Test.YtfegmmafcopbpaaGreatDoorGm2
import Derived.Test.YtfegmmafcopbpaaGreatDoorNw4
import Derived.Shelf.SlicesE.DeleteFunc
namespace Go.Proofs.YtfegmmafcopbpaaGreatDoor
open Go.RowKit

open Go.Sort Go.Lib in
theorem heap_put (w : World) (q blk : Nat) (d : Array Nat) (k : Nat) (h : k ≠ blk) : (putRow intV (Sort.ahead w q) blk 0 d).heap[k]? = w.heap[k]? := by
  show (w.heap.modify blk _)[k]? = w.heap[k]?
  rw [Array.getElem?_modify, if_neg (by omega)]

open Go.Sort Go.Lib in
theorem kp_put (w : World) (q blk : Nat) (d : Array Nat) (R : Nat) : Kp R (· = blk) w (putRow intV (Sort.ahead w q) blk 0 d) :=
  ⟨rfl, rfl, rfl, by rw [size_putRow]; exact Nat.le_refl _, fun k _ hk => heap_put w q blk d k hk⟩

open Go.Sort Go.Lib in
/-- a row that is written over with fewer elements -/
theorem IRow.put {w : World} {base blk cap : Nat} {l l' zs : List Nat} (h : IRow w base (.slice (some ⟨blk, 0, none⟩) l.length cap) l) (hz : l'.length + zs.length = l.length) (q : Nat) :
    IRow (putRow intV (Sort.ahead w q) blk 0 (l' ++ zs).toArray) base (.slice (some ⟨blk, 0, none⟩) l'.length cap) l' := by
  refine ⟨by simp, .inr ?_⟩
  rcases h.2 with ⟨h1, _⟩ | ⟨g, cp, cur, h1, hb, hg, hn, hm, hs, ht⟩
  · cases h1
  · injection h1 with e1 e2 e3
    injection e1 with e1
    injection e1 with e1
    subst e1 e3
    refine ⟨blk, cap, putCells intV 0 (l' ++ zs).toArray cur, rfl, hb, ?_, by omega, hm, ?_, ?_⟩
    · show (w.heap.modify blk _)[blk]? = _
      rw [Array.getElem?_modify, if_pos rfl, hg]
      rfl
    · unfold putCells; simpa using hs
    · have hs' : cur.size = cap := by simpa using hs
      apply List.ext_getElem
      · unfold putCells; simp; omega
      · intro j h1 h2
        have hj : j < l'.length := by simpa using h2
        rw [List.getElem_take, Array.getElem_toList]
        unfold putCells
        rw [Array.getElem_mapIdx, if_pos ⟨Nat.zero_le _, by simp; omega⟩, List.getElem_map]
        congr 1
        rw [getElem!_pos _ _ (by simp; omega)]
        simp [List.getElem_append_left hj]

theorem delEnters : ∀ args w, (callFunc 62 args).run Tryz.prog w = .ok (.enter 62 args) w := enters_of Tryz.func62 (by kernel_rfl) rfl

set_option maxRecDepth 100000 in
open Go.Sort Go.Lib in
theorem del_gives (i x cb : Nat) (W : World) (hc : W.cell? ⟨cb, 0, none⟩ = some (intV i)) : FnGives Tryz.prog 62 #[.pointer (some ⟨cb, 0, none⟩)] #[intV x] (.bool (decide (x = i))) W := by
  show Calls Tryz.prog 62 #[intV x, .pointer (some ⟨cb, 0, none⟩)] W _
  go_enter Tryz.func62, Tryz.ntmps62
  by_cases h : x = i
  · have hx : (((x : Nat) : Int) == ((i : Nat) : Int)) = true := by rw [h]; exact beq_self_eq_true _
    go_wp2
    go_ret
    exact ⟨by simp [h], 0, rfl⟩
  · have hx : (((x : Nat) : Int) == ((i : Nat) : Int)) = false := by rw [beq_eq_false_iff_ne]; omega
    go_wp2
    go_ret
    exact ⟨by simp [h], 0, rfl⟩

open Go.Sort Go.Lib in
theorem del_any (i cb blk cap : Nat) (l : List Nat) (base : Nat) (w : World) (hc : w.cell? ⟨cb, 0, none⟩ = some (intV i)) (hne : cb ≠ blk) (hl : l.length ≤ 1000000) (h : IRow w base (.slice (some ⟨blk, 0, none⟩) l.length cap) l) :
    Calls Tryz.prog 61 #[.slice (some ⟨blk, 0, none⟩) l.length cap, .func (.func 62) #[] #[.pointer (some ⟨cb, 0, none⟩)]] w fun e w' =>
      e = .returned (.slice (some ⟨blk, 0, none⟩) (l.filter fun x => !decide (x = i)).length cap) ∧ IRow w' base (.slice (some ⟨blk, 0, none⟩) (l.filter fun x => !decide (x = i)).length cap) (l.filter fun x => !decide (x = i)) ∧ ∀ R, Kp R (· = blk) w w' := by
  have hcl : cb < w.heap.size := World.block_lt_of_cell? w _ hc
  have hrow : ∃ cur, w.heap[blk]? = some (.cells cur 3 (0, 0)) ∧ l.length ≤ cap ∧ cur.size = cap ∧ cur.toList.take l.length = l.map intV := by
    rcases h.2 with ⟨h1, _⟩ | ⟨g, cp, cur, h1, hb, hg, hn, hm, hs, ht⟩
    · cases h1
    · injection h1 with e1 e2 e3
      injection e1 with e1
      injection e1 with e1
      subst e1 e3
      exact ⟨cur, hg, hn, by simpa using hs, by simpa using ht⟩
  obtain ⟨cur, hg, hn, hs, ht⟩ := hrow
  have hH : Holds intV w blk 0 l.toArray := by
    intro j hj
    have hj' : j < l.length := by simpa using hj
    have e1 : l.toArray[j]! = l[j] := by rw [getElem!_pos _ j hj]; simp
    have e2 : cur[j]? = some (intV l[j]) := by
      have := congrArg (·[j]?) ht
      simp only [List.getElem?_take, if_pos hj', List.getElem?_map, List.getElem?_eq_getElem hj', Option.map_some] at this
      simpa using this
    rw [e1, Nat.zero_add]
    exact ⟨by rw [cell_of_blk hg]; exact e2, free_of_blk hg j⟩
  have hblk : blk < w.heap.size := (Array.getElem?_eq_some_iff.1 hg).1
  have hp : PredAt Tryz.prog 62 #[.pointer (some ⟨cb, 0, none⟩)] intV (fun x => decide (x = i)) w :=
    fun W x hb => del_gives i x cb W ((hb.cell (p := ⟨cb, 0, none⟩) hcl).trans hc)
  have hpo : PredOver Tryz.prog 62 #[.pointer (some ⟨cb, 0, none⟩)] intV (fun x => decide (x = i)) blk 0 l.toArray.size w :=
    fun n os dk x _ => del_gives i x cb _ (by
      unfold sortWorld
      rw [cell?_grow _ _ _ (by show cb < (putRow _ _ _ _ _).heap.size; rw [size_putRow]; exact hcl), cell?_putRow_other _ _ blk 0 _ _ (Or.inl hne)]
      exact hc)
  have := Tryz.slices_DeleteFunc intV (fun _ => rfl) (fun x => decide (x = i)) 62 #[.pointer (some ⟨cb, 0, none⟩)] delEnters 0 (fun w => by kernel_rfl) blk 0 cap l.toArray w hp hpo hH (by simp; omega) (by simpa using hn)
  simp only [List.size_toArray] at this
  refine this.mono ?_
  rintro e w' ⟨he, q, rfl⟩
  have hle := List.length_filter_le (fun x => !decide (x = i)) l
  exact ⟨he, h.put (by simp; omega) q, fun R => kp_put w q blk _ R⟩
end Go.Proofs.YtfegmmafcopbpaaGreatDoor
