/- The walk over the law Later. -/
import Derived.Test.YtbhhjaflinfnfaaDoorDlives
namespace Go.Proofs.YtbhhjaflinfnfaaDoor
open Go.RowKit

set_option maxRecDepth 100000 in
set_option maxHeartbeats 3200000 in
theorem later_law (t a b : Int) (ht : isI t) (ha : isI a) (hb : isI b) (w : World) (hu : UnitsAt w) (hp : Pow10At w) : Calls Tryd.prog 6 #[.int .i64 t, .int .i64 a, .int .i64 b] w (LawPost w) := by
  have LV := Lib.hid (lives_any w hu hp)
  clear hu hp
  have HT := Lib.hid ht
  have HA := Lib.hid ha
  have HB := Lib.hid hb
  clear ht ha hb
  go_enter Tryd.func6, Tryd.ntmps6
  by_cases hin : 0 ≤ t ∧ 0 ≤ a ∧ 0 ≤ b ∧ t ≤ 1125899906842624 ∧ a ≤ 1125899906842624 ∧ b ≤ 1125899906842624
  · obtain ⟨h1, h2, h3, h4, h5, h6⟩ := hin
    have t1 : decide (t < 0) = false := by simp; omega
    have t2 : decide (a < 0) = false := by simp; omega
    have t3 : decide (b < 0) = false := by simp; omega
    have t4 : decide (1125899906842624 < t) = false := by simp; omega
    have t5 : decide (1125899906842624 < a) = false := by simp; omega
    have t6 : decide (1125899906842624 < b) = false := by simp; omega
    obtain ⟨x, hx, hx0⟩ : ∃ x, limF (satAdd t a) = x ∧ x = min (t + a) 1125899906842624 := ⟨_, rfl, by unfold limF satAdd; (repeat' split) <;> omega⟩
    obtain ⟨y, hy, hy0⟩ : ∃ y, limF (satAdd t b) = y ∧ y = min (t + b) 1125899906842624 := ⟨_, rfl, by unfold limF satAdd; (repeat' split) <;> omega⟩
    obtain ⟨z, hz, hz0⟩ : ∃ z, limF (satAdd x b) = z ∧ z = min (t + a + b) 1125899906842624 := ⟨_, rfl, by unfold limF satAdd; (repeat' split) <;> omega⟩
    have hz2 : limF (satAdd y a) = z := by unfold limF satAdd; (repeat' split) <;> omega
    have hel : t + a ≤ 1125899906842624 → elF t x = a := by intro h; unfold elF; (repeat' split) <;> omega
    have IX : Hid (isI x) := by unfold Hid isI; omega
    have IY : Hid (isI y) := by unfold Hid isI; omega
    have HX := Lib.hid hx
    have HY := Lib.hid hy
    have HZ := Lib.hid hz
    have HZ2 := Lib.hid hz2
    have HEL := Lib.hid hel
    have HX0 := Lib.hid hx0
    clear hx hy hz hz2 hel hx0 hy0 hz0
    go_wp2_with fail
    refine (durAdd_any t a HT.out HA.out w).mono ?_
    rw [HX.out]
    rintro e w1 ⟨rfl, rfl⟩
    go_wp2_with fail
    refine (durAdd_any x b IX.out HB.out w1).mono ?_
    rw [HZ.out]
    rintro e w2 ⟨rfl, rfl⟩
    go_wp2_with fail
    refine (durAdd_any t b HT.out HB.out w2).mono ?_
    rw [HY.out]
    rintro e w3 ⟨rfl, rfl⟩
    go_wp2_with fail
    refine (durAdd_any y a IY.out HA.out w3).mono ?_
    rw [HZ2.out]
    rintro e w4 ⟨rfl, rfl⟩
    have hzz : (z == z) = true := beq_self_eq_true z
    have hzn : (z != z) = false := by rw [bne, hzz]; rfl
    have wr : wrap64 (t + a) = t + a := wrap_in (by omega) (by omega)
    by_cases hbig : 1125899906842624 < t + a
    · go_wp2_with fail
      refine LV.out.mono ?_
      rintro e w5 ⟨rfl, hb⟩
      have HB5 := Lib.hid hb
      clear hb
      go_wp2_with fail
      go_ret
      exact ⟨rfl, HB5.out⟩
    · have t7 : decide (1125899906842624 < t + a) = false := by simp; omega
      have hxe : Hid (x = t + a) := by unfold Hid; have := HX0.out; omega
      have HE1 := Lib.hid (HEL.out (by omega))
      go_wp2_with fail
      refine (elapsed_any t x HT.out IX.out w4).mono ?_
      rw [HE1.out]
      rintro e w5 ⟨rfl, rfl⟩
      have haa : (a == a) = true := beq_self_eq_true a
      have hxx : (x == t + a) = true := by rw [beq_iff_eq]; exact hxe.out
      go_wp2_with fail
      refine LV.out.mono ?_
      rintro e w6 ⟨rfl, hb⟩
      have HB5 := Lib.hid hb
      clear hb
      go_wp2_with fail
      go_ret
      exact ⟨rfl, HB5.out⟩
  · have HIN := Lib.hid hin
    clear hin
    by_cases c1 : t < 0
    · go_wp2_with fail
      refine LV.out.mono ?_
      rintro e w5 ⟨rfl, hb⟩
      have HB5 := Lib.hid hb
      clear hb
      go_wp2_with fail
      go_ret
      exact ⟨rfl, HB5.out⟩
    · have t1 : decide (t < 0) = false := by simp; omega
      by_cases c2 : a < 0
      · go_wp2_with fail
        refine LV.out.mono ?_
        rintro e w5 ⟨rfl, hb⟩
        have HB5 := Lib.hid hb
        clear hb
        go_wp2_with fail
        go_ret
        exact ⟨rfl, HB5.out⟩
      · have t2 : decide (a < 0) = false := by simp; omega
        by_cases c3 : b < 0
        · go_wp2_with fail
          refine LV.out.mono ?_
          rintro e w5 ⟨rfl, hb⟩
          have HB5 := Lib.hid hb
          clear hb
          go_wp2_with fail
          go_ret
          exact ⟨rfl, HB5.out⟩
        · have t3 : decide (b < 0) = false := by simp; omega
          by_cases c4 : 1125899906842624 < t
          · go_wp2_with fail
            refine LV.out.mono ?_
            rintro e w5 ⟨rfl, hb⟩
            have HB5 := Lib.hid hb
            clear hb
            go_wp2_with fail
            go_ret
            exact ⟨rfl, HB5.out⟩
          · have t4 : decide (1125899906842624 < t) = false := by simp; omega
            by_cases c5 : 1125899906842624 < a
            · go_wp2_with fail
              refine LV.out.mono ?_
              rintro e w5 ⟨rfl, hb⟩
              have HB5 := Lib.hid hb
              clear hb
              go_wp2_with fail
              go_ret
              exact ⟨rfl, HB5.out⟩
            · have t5 : decide (1125899906842624 < a) = false := by simp; omega
              have c6 : 1125899906842624 < b := by have := HIN.out; omega
              go_wp2_with fail
              refine LV.out.mono ?_
              rintro e w5 ⟨rfl, hb⟩
              have HB5 := Lib.hid hb
              clear hb
              go_wp2_with fail
              go_ret
              exact ⟨rfl, HB5.out⟩
end Go.Proofs.YtbhhjaflinfnfaaDoor
