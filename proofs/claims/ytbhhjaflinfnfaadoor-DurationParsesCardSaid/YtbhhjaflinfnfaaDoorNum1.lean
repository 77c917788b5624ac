/- The walks over num's Add, Limit and duration's Add, Elapsed; the reference's. -/
import Derived.Test.YtbhhjaflinfnfaaDoorRows
import Derived.Test.YtbhhjaflinfnfaaDoorBase
namespace Go.Proofs.YtbhhjaflinfnfaaDoor
open Go.RowKit

def M63 : Int := 9223372036854775807
def maxT : Int := 1125899906842624
def isI (n : Int) : Prop := -9223372036854775808 ≤ n ∧ n ≤ 9223372036854775807
/-- the sum, limited to int -/
def satAdd (a b : Int) : Int := if 9223372036854775807 < a + b then 9223372036854775807 else if a + b < -9223372036854775808 then -9223372036854775808 else a + b
def limF (n : Int) : Int := max 0 (min n 1125899906842624)
def elF (a b : Int) : Int := if b ≤ a then 0 else min (b - a) 1125899906842624

set_option maxRecDepth 100000 in
theorem end_any (b : Bool) (w : World) : Calls Tryd.prog 34 #[.bool b] w fun e w' => e = .returned (.int .i64 (if b then -9223372036854775808 else 9223372036854775807)) ∧ w' = w := by
  go_enter Tryd.func34, Tryd.ntmps34
  cases b with
  | true =>
    go_wp2_with fail
    go_ret
    exact ⟨rfl, rfl⟩
  | false =>
    go_wp2_with fail
    go_ret
    exact ⟨rfl, rfl⟩

theorem wrap_in {n : Int} (h1 : -9223372036854775808 ≤ n) (h2 : n ≤ 9223372036854775807) : wrap64 n = n := by unfold wrap64; omega
theorem wrap_over {n : Int} (h1 : 9223372036854775807 < n) (h2 : n < 18446744073709551616) : wrap64 n < 0 := by
  unfold wrap64
  omega
theorem wrap_under {n : Int} (h1 : n < -9223372036854775808) (h2 : -18446744073709551616 ≤ n) : ¬ wrap64 n < 0 := by
  unfold wrap64
  omega

set_option maxRecDepth 100000 in
set_option maxHeartbeats 800000 in
theorem numAdd_any (a b : Int) (ha : isI a) (hb : isI b) (w : World) : Calls Tryd.prog 21 #[.int .i64 a, .int .i64 b] w fun e w' => e = .returned (.int .i64 (satAdd a b)) ∧ w' = w := by
  unfold isI at ha hb
  go_enter Tryd.func21, Tryd.ntmps21
  by_cases h1 : a < 0
  · by_cases h2 : b < 0
    · by_cases h3 : a + b < -9223372036854775808
      · have HS : Hid (satAdd a b = -9223372036854775808) := by unfold Hid satAdd; rw [if_neg (by omega), if_pos h3]
        have t3 : decide (wrap64 (a + b) < 0) = false := by simp only [decide_eq_false_iff_not]; exact wrap_under h3 (by omega)
        clear h3
        go_wp2_with fail
        refine (end_any _ w).mono ?_
        rintro e w1 ⟨rfl, rfl⟩
        go_wp2_with fail
        go_ret
        exact ⟨by rw [HS.out]; simp, rfl⟩
      · have HS : Hid (satAdd a b = wrap64 (a + b)) := by unfold Hid satAdd; rw [if_neg (by omega), if_neg h3, wrap_in (by omega) (by omega)]
        have t3 : decide (wrap64 (a + b) < 0) = true := by simp only [decide_eq_true_eq]; rw [wrap_in (by omega) (by omega)]; omega
        clear h3
        go_wp2_with fail
        go_ret
        exact ⟨by rw [HS.out]; rfl, rfl⟩
    · have HS : Hid (satAdd a b = a + b) := by unfold Hid satAdd; rw [if_neg (by omega), if_neg (by omega)]
      have t2 : decide (b < 0) = false := by simp; omega
      go_wp2_with fail
      go_ret
      exact ⟨by rw [HS.out]; rfl, rfl⟩
  · have t1 : decide (a < 0) = false := by simp; omega
    by_cases h2 : b < 0
    · have HS : Hid (satAdd a b = a + b) := by unfold Hid satAdd; rw [if_neg (by omega), if_neg (by omega)]
      go_wp2_with fail
      go_ret
      exact ⟨by rw [HS.out]; rfl, rfl⟩
    · have t2 : decide (b < 0) = false := by simp; omega
      by_cases h3 : 9223372036854775807 < a + b
      · have HS : Hid (satAdd a b = 9223372036854775807) := by unfold Hid satAdd; rw [if_pos h3]
        have t3 : decide (wrap64 (a + b) < 0) = true := by simp only [decide_eq_true_eq]; exact wrap_over h3 (by omega)
        clear h3
        go_wp2_with fail
        refine (end_any _ w).mono ?_
        rintro e w1 ⟨rfl, rfl⟩
        go_wp2_with fail
        go_ret
        exact ⟨by rw [HS.out]; simp, rfl⟩
      · have HS : Hid (satAdd a b = wrap64 (a + b)) := by unfold Hid satAdd; rw [if_neg h3, if_neg (by omega), wrap_in (by omega) (by omega)]
        have t3 : decide (wrap64 (a + b) < 0) = false := by simp only [decide_eq_false_iff_not]; rw [wrap_in (by omega) (by omega)]; omega
        clear h3
        go_wp2_with fail
        go_ret
        exact ⟨by rw [HS.out]; rfl, rfl⟩

theorem satAdd_I (a b : Int) : isI (satAdd a b) := by unfold isI satAdd; split <;> (try split) <;> omega

set_option maxRecDepth 100000 in
theorem limit_any (n lo hi : Int) (w : World) : Calls Tryd.prog 28 #[.int .i64 n, .int .i64 lo, .int .i64 hi] w fun e w' => e = .returned (.int .i64 (max lo (min n hi))) ∧ w' = w := by
  go_enter Tryd.func28, Tryd.ntmps28
  by_cases h1 : hi < n
  · by_cases h2 : lo < hi
    · have HS : Hid (max lo (min n hi) = hi) := by unfold Hid; omega
      go_wp2_with fail
      go_ret
      exact ⟨by rw [HS.out]; rfl, rfl⟩
    · have HS : Hid (max lo (min n hi) = lo) := by unfold Hid; omega
      go_wp2_with fail
      go_ret
      exact ⟨by rw [HS.out]; rfl, rfl⟩
  · by_cases h2 : lo < n
    · have HS : Hid (max lo (min n hi) = n) := by unfold Hid; omega
      go_wp2_with fail
      go_ret
      exact ⟨by rw [HS.out]; rfl, rfl⟩
    · have HS : Hid (max lo (min n hi) = lo) := by unfold Hid; omega
      go_wp2_with fail
      go_ret
      exact ⟨by rw [HS.out]; rfl, rfl⟩

set_option maxRecDepth 100000 in
theorem durAdd_any (a b : Int) (ha : isI a) (hb : isI b) (w : World) : Calls Tryd.prog 14 #[.int .i64 a, .int .i64 b] w fun e w' => e = .returned (.int .i64 (limF (satAdd a b))) ∧ w' = w := by
  go_enter Tryd.func14, Tryd.ntmps14
  go_wp2_with fail
  refine (numAdd_any a b ha hb w).mono ?_
  rintro e w1 ⟨rfl, rfl⟩
  go_wp2_with fail
  refine (limit_any _ _ _ _).mono ?_
  rintro e w2 ⟨rfl, rfl⟩
  go_wp2_with fail
  go_ret
  exact ⟨rfl, rfl⟩

set_option maxRecDepth 100000 in
theorem rlimit_any (n : Int) (w : World) : Calls Tryd.prog 13 #[.int .i64 n] w fun e w' => e = .returned (.int .i64 (limF n)) ∧ w' = w := by
  go_enter Tryd.func13, Tryd.ntmps13
  by_cases h1 : n < 0
  · have HL : Hid (limF n = 0) := by unfold Hid limF; omega
    go_wp2_with fail
    go_ret
    exact ⟨by rw [HL.out]; rfl, rfl⟩
  · by_cases h2 : 1125899906842624 < n
    · have HL : Hid (limF n = 1125899906842624) := by unfold Hid limF; omega
      go_wp2_with fail
      go_ret
      exact ⟨by rw [HL.out]; rfl, rfl⟩
    · have HL : Hid (limF n = n) := by unfold Hid limF; omega
      go_wp2_with fail
      go_ret
      exact ⟨by rw [HL.out]; rfl, rfl⟩

set_option maxRecDepth 100000 in
set_option maxHeartbeats 800000 in
theorem refAdd_any (a b : Int) (ha : isI a) (hb : isI b) (w : World) : Calls Tryd.prog 31 #[.int .i64 a, .int .i64 b] w fun e w' => e = .returned (.int .i64 (satAdd a b)) ∧ w' = w := by
  unfold isI at ha hb
  go_enter Tryd.func31, Tryd.ntmps31
  by_cases h1 : 0 < a
  · have w1 : wrap64 (9223372036854775807 - a) = 9223372036854775807 - a := wrap_in (by omega) (by omega)
    by_cases h2 : 9223372036854775807 - a < b
    · have HS : Hid (satAdd a b = 9223372036854775807) := by unfold Hid satAdd; rw [if_pos (by omega)]
      go_wp2_with fail
      go_ret
      exact ⟨by rw [HS.out]; rfl, rfl⟩
    · have HS : Hid (satAdd a b = a + b) := by unfold Hid satAdd; rw [if_neg (by omega), if_neg (by omega)]
      have t2 : decide (9223372036854775807 - a < b) = false := by simp; omega
      have t3 : decide (a < 0) = false := by simp; omega
      have w2 : wrap64 (a + b) = a + b := wrap_in (by omega) (by omega)
      go_wp2_with fail
      go_ret
      exact ⟨by rw [HS.out, ← w2]; rfl, rfl⟩
  · have t1 : decide (0 < a) = false := by simp; omega
    by_cases h3 : a < 0
    · have w1 : wrap64 (-9223372036854775808 - a) = -9223372036854775808 - a := wrap_in (by omega) (by omega)
      by_cases h2 : b < -9223372036854775808 - a
      · have HS : Hid (satAdd a b = -9223372036854775808) := by unfold Hid satAdd; rw [if_neg (by omega), if_pos (by omega)]
        go_wp2_with fail
        go_ret
        exact ⟨by rw [HS.out]; rfl, rfl⟩
      · have HS : Hid (satAdd a b = a + b) := by unfold Hid satAdd; rw [if_neg (by omega), if_neg (by omega)]
        have t2 : decide (b < -9223372036854775808 - a) = false := by simp; omega
        have w2 : wrap64 (a + b) = a + b := wrap_in (by omega) (by omega)
        go_wp2_with fail
        go_ret
        exact ⟨by rw [HS.out, ← w2]; rfl, rfl⟩
    · have HS : Hid (satAdd a b = a + b) := by unfold Hid satAdd; rw [if_neg (by omega), if_neg (by omega)]
      have t3 : decide (a < 0) = false := by simp; omega
      have w2 : wrap64 (a + b) = a + b := wrap_in (by omega) (by omega)
      go_wp2_with fail
      go_ret
      exact ⟨by rw [HS.out, ← w2]; rfl, rfl⟩

set_option maxRecDepth 100000 in
theorem rdurAdd_any (a b : Int) (ha : isI a) (hb : isI b) (w : World) : Calls Tryd.prog 15 #[.int .i64 a, .int .i64 b] w fun e w' => e = .returned (.int .i64 (limF (satAdd a b))) ∧ w' = w := by
  go_enter Tryd.func15, Tryd.ntmps15
  go_wp2_with fail
  refine (refAdd_any a b ha hb w).mono ?_
  rintro e w1 ⟨rfl, rfl⟩
  go_wp2_with fail
  refine (rlimit_any _ _).mono ?_
  rintro e w2 ⟨rfl, rfl⟩
  go_wp2_with fail
  go_ret
  exact ⟨rfl, rfl⟩
end Go.Proofs.YtbhhjaflinfnfaaDoor
