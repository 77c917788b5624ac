/- The walk over Critical of package graph. -/
import Derived.Test.YtfegmmafcopbpaaGreatDoorGw7
import Derived.Test.YtfegmmafcopbpaaGreatDoorGr
import Derived.Test.YtfegmmafcopbpaaGreatDoorGb1
import Derived.Shelf.SlicesE.IndexFunc
namespace Go.Proofs.YtfegmmafcopbpaaGreatDoor
open Go.RowKit Go.Shelf

set_option maxRecDepth 100000 in
theorem back_any (a : Option Addr) (len cap : Nat) (w : World) :
    Calls Tryz.prog 56 #[.slice a len cap] w fun e w' => e = .returned (.func (.func 81) #[] #[.pointer (some ⟨w.heap.size, 0, none⟩)]) ∧ w' = w.alloc (.cells #[.slice a len cap] 40) := by
  go_enter Tryz.func56, Tryz.ntmps56
  go_wp2_with fail
  go_ret
  exact ⟨rfl, rfl⟩

/-- a slice of numbers of any sign that can be read -/
abbrev ZsAt (w : World) (v : Value) (l : List Int) : Prop := SlAt 1 (fun k => [Value.int .i64 k]) w v l

def badZ (c : Int) : Bool := decide (c < 0) || decide (1125899906842624 < c)
theorem badEnters : ∀ args w, (callFunc 54 args).run Tryz.prog w = .ok (.enter 54 args) w := enters_of Tryz.func54 (by kernel_rfl) rfl
set_option maxRecDepth 100000 in
theorem bad_gives (c : Int) (W : World) : FnGives Tryz.prog 54 #[] #[.int .i64 c] (.bool (badZ c)) W := by
  show Calls Tryz.prog 54 #[.int .i64 c] W _
  go_enter Tryz.func54, Tryz.ntmps54
  by_cases h1 : c < 0
  · go_wp2_with fail
    go_ret
    exact ⟨by unfold badZ; simp [h1], 0, rfl⟩
  · have h1' : decide (c < 0) = false := by simp; omega
    by_cases h2 : 1125899906842624 < c
    · go_wp2_with fail
      go_ret
      exact ⟨by unfold badZ; simp [h2], 0, rfl⟩
    · have h2' : decide (1125899906842624 < c) = false := by simp; omega
      clear h1 h2
      go_wp2_with fail
      go_ret
      exact ⟨by unfold badZ; rw [h1', h2']; rfl, 0, rfl⟩
theorem bads_any (v : Value) (l : List Int) (hl : l.length ≤ 1000000000) (w : World) (h : ZsAt w v l) :
    Calls Tryz.prog 55 #[v, .func (.func 54) #[] #[]] w fun e w' => e = .returned (.bool (l.any badZ)) ∧ ∃ q, w' = w.drewN q := by
  rcases h with ⟨ao, cap, rfl, rfl⟩ | ⟨b, off, cap, rfl, hbl, hcells⟩
  · exact (Tryz.slices_ContainsFunc_empty_f55 (α := Int) ao cap _ w).mono (by rintro e w' ⟨rfl, rfl⟩; exact ⟨rfl, 0, rfl⟩)
  · refine (Tryz.slices_ContainsFunc_f55 (fun z : Int => Value.int .i64 z) badZ 54 #[] badEnters b off l.length cap l w (fun W x _ => bad_gives x W) (Nat.le_refl _) (by omega) (fun j hj => ?_)).mono ?_
    · have := hcells j hj 0 _ rfl
      rw [List.getElem!_eq_getElem?_getD, List.getElem?_eq_getElem hj]
      simpa using this
    · rintro e w' ⟨rfl, q, rfl⟩
      exact ⟨by rw [List.take_length], q, rfl⟩
end Go.Proofs.YtfegmmafcopbpaaGreatDoor
