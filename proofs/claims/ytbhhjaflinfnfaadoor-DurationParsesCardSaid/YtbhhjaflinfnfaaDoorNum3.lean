/- The walk over num.Mul, for numbers that are not negative. -/
import Derived.Test.YtbhhjaflinfnfaaDoorNum2
import Derived.Shelf.Bits.Mul64
namespace Go.Proofs.YtbhhjaflinfnfaaDoor
open Go.RowKit

set_option maxRecDepth 100000 in
theorem size_any (a : Nat) (ha : a ≤ 9223372036854775807) (w : World) : Calls Tryd.prog 45 #[.int .i64 (a : Nat)] w fun e w' => e = .returned (.int .u64 (a : Nat)) ∧ w' = w := by
  go_enter Tryd.func45, Tryd.ntmps45
  have t1 : ¬ (a : Int) < 0 := by omega
  have hu : IntKind.u64.wrap (a : Int) = (a : Int) := by rw [uwrap]; omega
  go_wp2_with fail
  go_ret
  exact ⟨by rw [← hu]; rfl, rfl⟩

def hiX (x y : Nat) : Int := IntKind.u64.wrap (IntKind.u64.wrap (IntKind.u64.wrap (IntKind.u64.wrap ((x : Int) / 4294967296 * (y : Int)) + IntKind.u64.wrap ((x : Int) % 4294967296 * (y : Int)) / 4294967296) / 4294967296) +
  IntKind.u64.wrap (bits .and .u64 (IntKind.u64.wrap (IntKind.u64.wrap ((x : Int) / 4294967296 * (y : Int)) + IntKind.u64.wrap ((x : Int) % 4294967296 * (y : Int)) / 4294967296)) 4294967295) / 4294967296)
def loX (x y : Nat) : Int := bits .or .u64 (IntKind.u64.wrap (IntKind.u64.wrap (bits .and .u64 (IntKind.u64.wrap (IntKind.u64.wrap ((x : Int) / 4294967296 * (y : Int)) + IntKind.u64.wrap ((x : Int) % 4294967296 * (y : Int)) / 4294967296)) 4294967295) * 4294967296))
  (bits .and .u64 (IntKind.u64.wrap ((x : Int) % 4294967296 * (y : Int))) 4294967295)

theorem or_add (a b : Nat) (hb : b < 4294967296) (ha : a * 4294967296 < 18446744073709551616) : bits .or .u64 ((a * 4294967296 : Nat) : Int) (b : Int) = ((a * 4294967296 + b : Nat) : Int) := by
  have h := bits_or_u64_nat (a * 4294967296) b ha (by omega)
  have e : a * 4294967296 ||| b = a * 4294967296 + b := by
    have := Nat.shiftLeft_add_eq_or_of_lt (i := 32) (b := b) hb a
    rw [Nat.shiftLeft_eq] at this
    exact this.symm
  rw [e] at h
  exact h

theorem mul_parts (x y : Nat) (hx : x ≤ 9223372036854775807) (hy : y < 4294967296) : hiX x y = ((x * y / 18446744073709551616 : Nat) : Int) ∧ loX x y = ((x * y % 18446744073709551616 : Nat) : Int) := by
  have e1 : (x : Int) / 4294967296 * (y : Int) = ((x / 4294967296 * y : Nat) : Int) := by rw [Mul64.divN, Mul64.mulN]
  have e2 : (x : Int) % 4294967296 * (y : Int) = ((x % 4294967296 * y : Nat) : Int) := by rw [show (x : Int) % 4294967296 = ((x % 4294967296 : Nat) : Int) by omega, Mul64.mulN]
  have exy : x * y = (x / 4294967296 * y) * 4294967296 + x % 4294967296 * y := by
    conv => lhs; rw [← Nat.div_add_mod x 4294967296]
    rw [Nat.add_mul, Nat.mul_comm 4294967296 (x / 4294967296), Nat.mul_right_comm]
  have b1 : x / 4294967296 * y ≤ 2147483647 * 4294967295 := Nat.mul_le_mul (by omega) (by omega)
  have b2 : x % 4294967296 * y ≤ 4294967295 * 4294967295 := Nat.mul_le_mul (by omega) (by omega)
  unfold hiX loX
  rw [e1, e2, exy]
  generalize x / 4294967296 * y = p at *
  generalize x % 4294967296 * y = q at *
  rw [Mul64.wrapN p (by omega), Mul64.wrapN q (by omega), Mul64.divN q, Mul64.addN, Mul64.wrapN (p + q / 4294967296) (by omega), Mul64.divN, Mul64.wrapN _ (by omega), Mul64.maskN _ (by omega), Mul64.wrapN _ (by omega), Mul64.divN, Mul64.addN, Mul64.wrapN _ (by omega), Mul64.maskN _ (by omega)]
  constructor
  · congr 1
    omega
  · rw [show (((p + q / 4294967296) % 4294967296 : Nat) : Int) * 4294967296 = (((p + q / 4294967296) % 4294967296 * 4294967296 : Nat) : Int) by omega, Mul64.wrapN _ (by omega), or_add _ _ (by omega) (by omega)]
    congr 1
    omega

set_option maxRecDepth 100000 in
set_option maxHeartbeats 1600000 in
theorem multiply_any (x y : Nat) (hx : x ≤ 9223372036854775807) (hy : y < 4294967296) (w : World) : Calls Tryd.prog 35 #[.int .i64 (x : Nat), .int .i64 (y : Nat)] w fun e w' =>
    e = .returned (.agg #[.int .u64 ((x * y / 18446744073709551616 : Nat) : Int), .int .u64 ((x * y % 18446744073709551616 : Nat) : Int), .bool false]) ∧ Below w.heap.size w w' := by
  go_enter Tryd.func35, Tryd.ntmps35
  go_wp2_with fail
  refine (size_any x hx _).mono ?_
  rintro e w1 ⟨rfl, rfl⟩
  go_wp2_with fail
  refine (size_any y (by omega) _).mono ?_
  rintro e w1 ⟨rfl, rfl⟩
  have hsg : ((x : Int) < 0 ↔ (y : Int) < 0) := by omega
  have ey : (y : Int) / 4294967296 = 0 := by omega
  have el := Mul64.maskN y (by omega)
  have ex := Mul64.maskN x (by omega)
  have ey2 : y % 4294967296 = y := Nat.mod_eq_of_lt hy
  have hxl : x % 4294967296 * y < 18446744073709551616 := by
    have := Lib.half_mul_le (a := x % 4294967296) (b := y) (by omega) (by omega)
    omega
  go_wp2_with fail
  obtain ⟨hh, hl⟩ := mul_parts x y hx hy
  refine bodyPost_ret (results_cell_row rfl _ _ _ 54 #[.int .u64 (hiX x y), .int .u64 (loX x y), .bool false] (0, 0) _ rfl ((hp_old (by simp)).trans (hp_new rfl)) Tryd.underlying54 rfl (by kernel_rfl)) rfl ⟨?_, ?_⟩
  · rw [hh, hl]
  · exact ((Below.refl _ _).alloc (Nat.le_refl _) _).alloc (by simp) _

/-- the product of numbers that are not negative, limited to int -/
def satMul (x y : Nat) : Nat := min (x * y) 9223372036854775807

set_option maxRecDepth 100000 in
set_option maxHeartbeats 1600000 in
theorem narrow_any (h l : Nat) (w : World) (hh : h < 18446744073709551616) (hl : l < 18446744073709551616) : Calls Tryd.prog 36 #[.agg #[.int .u64 (h : Nat), .int .u64 (l : Nat), .bool false]] w fun e w' =>
    e = .returned (if h = 0 ∧ l ≤ 9223372036854775807 then .tuple #[.int .i64 (l : Nat), .bool true] else .tuple #[.int .i64 0, .bool false]) ∧ Below w.heap.size w w' := by
  go_enter Tryd.func36, Tryd.ntmps36
  by_cases h1 : h = 0
  · subst h1
    by_cases h2 : l ≤ 9223372036854775807
    · have t2 : (l : Int) ≤ 9223372036854775807 := by omega
      rw [if_pos ⟨rfl, h2⟩]
      go_wp2_with fail
      go_ret2
      exact ⟨rfl, (Below.refl _ _).alloc (Nat.le_refl _) _⟩
    · have t2 : decide ((l : Int) ≤ 9223372036854775807) = false := by simp; omega
      rw [if_neg (fun h => h2 h.2)]
      go_wp2_with fail
      go_ret2
      exact ⟨rfl, (Below.refl _ _).alloc (Nat.le_refl _) _⟩
  · rw [if_neg (fun h => h1 h.1)]
    have t1 : ((h : Int) != 0) = true := by rw [bne_iff_ne]; omega
    go_wp2_with fail
    go_ret2
    exact ⟨rfl, (Below.refl _ _).alloc (Nat.le_refl _) _⟩

set_option maxRecDepth 100000 in
set_option maxHeartbeats 1600000 in
theorem mul_any (x y : Nat) (hx : x ≤ 9223372036854775807) (hy : y < 4294967296) (w : World) : Calls Tryd.prog 22 #[.int .i64 (x : Nat), .int .i64 (y : Nat)] w fun e w' => e = .returned (.int .i64 (satMul x y : Nat)) ∧ Below w.heap.size w w' := by
  go_enter Tryd.func22, Tryd.ntmps22
  go_wp2_with fail
  refine (multiply_any x y hx hy w).mono ?_
  have hb1 : x * y / 18446744073709551616 < 18446744073709551616 := by
    have : x * y ≤ 9223372036854775807 * 4294967295 := Nat.mul_le_mul hx (by omega)
    omega
  have hb2 : x * y % 18446744073709551616 < 18446744073709551616 := Nat.mod_lt _ (by decide)
  have HS : Hid (satMul x y = if x * y / 18446744073709551616 = 0 ∧ x * y % 18446744073709551616 ≤ 9223372036854775807 then x * y % 18446744073709551616 else 9223372036854775807) := by
    unfold Hid satMul
    split <;> omega
  generalize x * y / 18446744073709551616 = h at *
  generalize x * y % 18446744073709551616 = l at *
  rintro e w1 ⟨rfl, hb⟩
  have HB := Lib.hid hb
  clear hb
  go_wp2_with fail
  refine (narrow_any h l _ hb1 hb2).mono ?_
  rintro e w2 ⟨rfl, hb⟩
  have HBK : Hid (w2.heap[w1.heap.size]? = some (.cells #[.int .u64 (h : Nat), .int .u64 (l : Nat), .bool false] 54)) := (hb.block _ (by simp)).trans (hp_new rfl)
  have hz1 := HB.out.size
  have HB2 := Lib.hid ((HB.out.alloc hz1 _).trans (hb.mono (by simp; omega)))
  clear hb
  by_cases hc : h = 0 ∧ l ≤ 9223372036854775807
  · have HS : Hid (satMul x y = l) := by unfold Hid; rw [HS.out, if_pos hc]
    rw [if_pos hc]
    clear hc
    go_wp2_with fail
    go_ret
    exact ⟨by rw [HS.out]; rfl, HB2.out⟩
  · have HS : Hid (satMul x y = 9223372036854775807) := by unfold Hid; rw [HS.out, if_neg hc]
    rw [if_neg hc]
    have k2 : w2.cell? ⟨w1.heap.size, 2, none⟩ = some (.bool false) := by rw [cell_of_blk HBK.out]; rfl
    clear hc
    go_wp2_with fail
    refine (end_any false w2).mono ?_
    rintro e w3 ⟨rfl, rfl⟩
    go_wp2_with fail
    go_ret
    exact ⟨by rw [HS.out]; rfl, HB2.out⟩
end Go.Proofs.YtbhhjaflinfnfaaDoor
