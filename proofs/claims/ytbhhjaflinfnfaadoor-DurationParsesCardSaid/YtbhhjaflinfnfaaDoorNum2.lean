/- The walks over Elapsed, the program's and the reference's. -/
import Derived.Test.YtbhhjaflinfnfaaDoorNum1
namespace Go.Proofs.YtbhhjaflinfnfaaDoor
open Go.RowKit

set_option maxRecDepth 100000 in
set_option maxHeartbeats 800000 in
theorem elapsed_any (a b : Int) (ha : isI a) (hb : isI b) (w : World) : Calls Tryd.prog 16 #[.int .i64 a, .int .i64 b] w fun e w' => e = .returned (.int .i64 (elF a b)) ∧ w' = w := by
  unfold isI at ha hb
  go_enter Tryd.func16, Tryd.ntmps16
  by_cases h1 : b < a
  · have HE : Hid (elF a b = 0) := by unfold Hid elF; rw [if_pos (by omega)]
    go_wp2_with fail
    go_ret
    exact ⟨by rw [HE.out]; rfl, rfl⟩
  · have h1' : ¬ b < a := h1
    by_cases h2 : a < 0
    · have w1 : wrap64 (1125899906842624 + a) = 1125899906842624 + a := wrap_in (by omega) (by omega)
      by_cases h3 : 1125899906842624 + a < b
      · have HE : Hid (elF a b = 1125899906842624) := by unfold Hid elF; rw [if_neg (by omega)]; omega
        go_wp2_with fail
        go_ret
        exact ⟨by rw [HE.out]; rfl, rfl⟩
      · have HE : Hid (elF a b = max 0 (min (b - a) 1125899906842624)) := by unfold Hid elF; split <;> omega
        have t3 : decide (1125899906842624 + a < b) = false := by simp; omega
        have w2 : wrap64 (b - a) = b - a := wrap_in (by omega) (by omega)
        go_wp2_with fail
        refine (limit_any _ _ _ _).mono ?_
        rintro e w3 ⟨rfl, rfl⟩
        rw [← HE.out]
        go_wp2_with fail
        go_ret
        exact ⟨rfl, rfl⟩
    · have t2 : decide (a < 0) = false := by simp; omega
      have HE : Hid (elF a b = max 0 (min (b - a) 1125899906842624)) := by unfold Hid elF; split <;> omega
      have w2 : wrap64 (b - a) = b - a := wrap_in (by omega) (by omega)
      go_wp2_with fail
      refine (limit_any _ _ _ _).mono ?_
      rintro e w3 ⟨rfl, rfl⟩
      rw [← HE.out]
      go_wp2_with fail
      go_ret
      exact ⟨rfl, rfl⟩

theorem uwrap (n : Int) : IntKind.u64.wrap n = n % 18446744073709551616 := by rfl
theorem uwrap_sub {a b : Int} (h1 : 0 ≤ b - a) (h2 : b - a < 18446744073709551616) : IntKind.u64.wrap (IntKind.u64.wrap b - IntKind.u64.wrap a) = b - a := by
  rw [uwrap, uwrap, uwrap]
  omega

set_option maxRecDepth 100000 in
set_option maxHeartbeats 800000 in
theorem relapsed_any (a b : Int) (ha : isI a) (hb : isI b) (w : World) : Calls Tryd.prog 17 #[.int .i64 a, .int .i64 b] w fun e w' => e = .returned (.int .i64 (elF a b)) ∧ w' = w := by
  unfold isI at ha hb
  go_enter Tryd.func17, Tryd.ntmps17
  by_cases h1 : b ≤ a
  · have HE : Hid (elF a b = 0) := by unfold Hid elF; rw [if_pos h1]
    go_wp2_with fail
    go_ret
    exact ⟨by rw [HE.out]; rfl, rfl⟩
  · have h1' : ¬ b ≤ a := h1
    have hu := uwrap_sub (a := a) (b := b) (by omega) (by omega)
    by_cases h2 : 1125899906842624 < b - a
    · have HE : Hid (elF a b = 1125899906842624) := by unfold Hid elF; rw [if_neg h1]; omega
      have t2 : 1125899906842624 < IntKind.u64.wrap (IntKind.u64.wrap b - IntKind.u64.wrap a) := by rw [hu]; exact h2
      clear hu
      go_wp2_with fail
      go_ret
      exact ⟨by rw [HE.out]; rfl, rfl⟩
    · have HE : Hid (elF a b = b - a) := by unfold Hid elF; rw [if_neg h1]; omega
      have t2 : ¬ 1125899906842624 < IntKind.u64.wrap (IntKind.u64.wrap b - IntKind.u64.wrap a) := by rw [hu]; exact h2
      have w2 : wrap64 (b - a) = b - a := wrap_in (by omega) (by omega)
      clear hu
      go_wp2_with fail
      go_ret
      exact ⟨by rw [HE.out, ← w2]; rfl, rfl⟩
end Go.Proofs.YtbhhjaflinfnfaaDoor
