/- The walks over the reference's UnitSize, UnitName, Decimal, Show, and the law's part. -/
import Derived.Test.YtbhhjaflinfnfaaDoorDur3
namespace Go.Proofs.YtbhhjaflinfnfaaDoor
open Go.RowKit

set_option maxRecDepth 100000 in
set_option maxHeartbeats 1600000 in
theorem unitSize_any (i : Nat) (hi : i < 5) (w : World) : Calls Tryd.prog 26 #[.int .i64 (i : Nat)] w fun e w' => e = .returned (.int .i64 (uMs i : Nat)) ∧ Below w.heap.size w w' := by
  have hi5 : i = 0 ∨ i = 1 ∨ i = 2 ∨ i = 3 ∨ i = 4 := by omega
  rcases hi5 with rfl | rfl | rfl | rfl | rfl <;> (
    go_enter Tryd.func26, Tryd.ntmps26
    go_wp2_with fail
    go_ret
    exact ⟨rfl, (Below.refl _ _).alloc (Nat.le_refl _) _⟩)

set_option maxRecDepth 100000 in
set_option maxHeartbeats 1600000 in
theorem unitName_any (i : Nat) (hi : i < 5) (w : World) : Calls Tryd.prog 27 #[.int .i64 (i : Nat)] w fun e w' => e = .returned (.string (uN i)) ∧ Below w.heap.size w w' := by
  have hi5 : i = 0 ∨ i = 1 ∨ i = 2 ∨ i = 3 ∨ i = 4 := by omega
  rcases hi5 with rfl | rfl | rfl | rfl | rfl <;> (
    go_enter Tryd.func27, Tryd.ntmps27
    go_wp2_with fail
    go_ret
    exact ⟨rfl, (Below.refl _ _).alloc (Nat.le_refl _) _⟩)

end Go.Proofs.YtbhhjaflinfnfaaDoor
