/- The walks over the laws Overlaps and Witness. -/
import Derived.Test.YtnmbabaihfdljaaLaws3
import Derived.Test.YtnmbabaihfdljaaPlain7
namespace Go.Proofs.Ytnmbabaihfdljaa
open Go.RowKit
open Bs

theorem over_ans (a b : ByteArray) (ha : a.size ≤ 40) (hb : b.size ≤ 40) (w : World) :
    Calls Try.prog 19 #[.string a, .string b] w fun e w' => ∃ r : Bool, e = .returned (.bool r) ∧ OverAns a.data.toList b.data.toList r ∧ Below w.heap.size w w' := by
  have h1 := Lib.size_eq a
  have h2 := Lib.size_eq b
  refine (over_any a b (by unfold maxLen; omega) (by unfold maxLen; omega) w).mono ?_
  rintro e w1 ⟨r, rfl, hb, h⟩
  rw [if_neg (by omega)] at h
  exact ⟨r, rfl, h, hb⟩

set_option maxRecDepth 100000 in
set_option maxHeartbeats 1600000 in
theorem overlaps_law (a0 a1 a2 : ByteArray) (w0 : a0.size ≤ maxLen) (w1 : a1.size ≤ maxLen) (_w2 : a2.size ≤ maxLen) (w : World) : Calls Try.prog 8 #[.string a0, .string a1, .string a2] w (LawPost w) := by
  have lv : ∀ v : World, Below w.heap.size w v → Calls Try.prog 10 #[] v fun e w' => e = .returned (.bool true) ∧ Below w.heap.size w w' := fun v hb => (lives_any v).mono fun e w' h => ⟨h.1, hb.trans (h.2.mono hb.size)⟩
  have LV := Lib.hid lv
  clear lv
  go_enter Try.func8, Try.ntmps8
  by_cases hl0 : 40 < a0.size
  · go_wp2_with fail
    refine (LV.out _ (Below.refl _ _)).mono ?_
    rintro e w1 ⟨rfl, hb⟩
    have HB := Lib.hid hb
    clear hb
    go_wp2
    go_ret
    exact ⟨rfl, HB.out⟩
  by_cases hl1 : 40 < a1.size
  · go_wp2_with fail
    refine (LV.out _ (Below.refl _ _)).mono ?_
    rintro e w1 ⟨rfl, hb⟩
    have HB := Lib.hid hb
    clear hb
    go_wp2
    go_ret
    exact ⟨rfl, HB.out⟩
  by_cases hl2 : 100 < a2.size
  · go_wp2_with fail
    refine (LV.out _ (Below.refl _ _)).mono ?_
    rintro e w1 ⟨rfl, hb⟩
    have HB := Lib.hid hb
    clear hb
    go_wp2
    go_ret
    exact ⟨rfl, HB.out⟩
  go_wp2_with fail
  refine (over_ans a0 a1 (by omega) (by omega) w).mono ?_
  rintro e w3 ⟨r, rfl, hans, hb⟩
  have HANS := Lib.hid hans
  have HB3 := Lib.hid hb
  clear hans hb
  go_wp2_with fail
  refine (roverlaps_any a0 a1 (by omega) (by omega) w3).mono ?_
  rintro e w4 ⟨q, ok, rfl, hwit, hb⟩
  obtain rfl : r = ok := over_wit HANS.out hwit
  have HB4 := Lib.hid (HB3.out.trans (hb.mono HB3.out.size))
  have hself : (r != r) = false := by cases r <;> rfl
  clear hb hwit
  go_wp2_with fail
  refine (over_ans a1 a0 (by omega) (by omega) w4).mono ?_
  rintro e w5 ⟨r2, rfl, hans2, hb⟩
  obtain rfl : r2 = r := over_comm HANS.out hans2
  have HB5 := Lib.hid (HB4.out.trans (hb.mono HB4.out.size))
  clear hb hans2
  cases r2 with
  | true =>
    go_wp2_with fail
    refine (LV.out _ HB5.out).mono ?_
    rintro e w6 ⟨rfl, hb⟩
    have HB := Lib.hid hb
    clear hb
    go_wp2
    go_ret
    exact ⟨rfl, HB.out⟩
  | false =>
    have HNO := Lib.hid (fun h1 h2 => over_no (s := a2.data.toList) HANS.out h1 h2)
    go_wp2_with fail
    refine (gmatch_any a0 a2 w0 (by omega) w5).mono ?_
    rintro e w6 ⟨rfl, hb⟩
    have HB6 := Lib.hid (HB5.out.trans (hb.mono HB5.out.size))
    clear hb
    cases hm : gmatchF a0.data.toList a2.data.toList with
    | false =>
      clear hm
      go_wp2_with fail
      refine (LV.out _ HB6.out).mono ?_
      rintro e w7 ⟨rfl, hb⟩
      have HB := Lib.hid hb
      clear hb
      go_wp2
      go_ret
      exact ⟨rfl, HB.out⟩
    | true =>
      have HM := Lib.hid hm
      clear hm
      go_wp2_with fail
      refine (gmatch_any a1 a2 w1 (by omega) w6).mono ?_
      rintro e w7 ⟨rfl, hb⟩
      have HB7 := Lib.hid (HB6.out.trans (hb.mono HB6.out.size))
      clear hb
      cases hm2 : gmatchF a1.data.toList a2.data.toList with
      | true => exact (HNO.out HM.out hm2).elim
      | false =>
        clear hm2
        go_wp2_with fail
        refine (LV.out _ HB7.out).mono ?_
        rintro e w8 ⟨rfl, hb⟩
        have HB := Lib.hid hb
        clear hb
        go_wp2
        go_ret
        exact ⟨rfl, HB.out⟩

set_option maxRecDepth 100000 in
set_option maxHeartbeats 1600000 in
theorem witness_law (a0 a1 : ByteArray) (w0 : a0.size ≤ maxLen) (w1 : a1.size ≤ maxLen) (w : World) : Calls Try.prog 9 #[.string a0, .string a1] w (LawPost w) := by
  have lv : ∀ v : World, Below w.heap.size w v → Calls Try.prog 10 #[] v fun e w' => e = .returned (.bool true) ∧ Below w.heap.size w w' := fun v hb => (lives_any v).mono fun e w' h => ⟨h.1, hb.trans (h.2.mono hb.size)⟩
  have LV := Lib.hid lv
  clear lv
  go_enter Try.func9, Try.ntmps9
  by_cases hl0 : 40 < a0.size
  · go_wp2_with fail
    refine (LV.out _ (Below.refl _ _)).mono ?_
    rintro e w1 ⟨rfl, hb⟩
    have HB := Lib.hid hb
    clear hb
    go_wp2
    go_ret
    exact ⟨rfl, HB.out⟩
  by_cases hl1 : 40 < a1.size
  · go_wp2_with fail
    refine (LV.out _ (Below.refl _ _)).mono ?_
    rintro e w1 ⟨rfl, hb⟩
    have HB := Lib.hid hb
    clear hb
    go_wp2
    go_ret
    exact ⟨rfl, HB.out⟩
  have HS0 := Lib.hid (Lib.size_eq a0)
  have HS1 := Lib.hid (Lib.size_eq a1)
  go_wp2_with fail
  refine (witness_any a0 a1 (by omega) (by omega) w).mono ?_
  rintro e w3 ⟨q, ok, rfl, hwit, hb⟩
  have HWIT := Lib.hid hwit
  have HB3 := Lib.hid hb
  clear hwit hb
  cases ok with
  | false =>
    go_wp2_with fail
    refine (over_ans a0 a1 (by omega) (by omega) w3).mono ?_
    rintro e w4 ⟨r, rfl, hans, hb⟩
    obtain rfl : r = false := over_wit hans HWIT.out
    have HB4 := Lib.hid (HB3.out.trans (hb.mono HB3.out.size))
    clear hb hans
    go_wp2_with fail
    refine (LV.out _ HB4.out).mono ?_
    rintro e w5 ⟨rfl, hb⟩
    have HB := Lib.hid hb
    clear hb
    go_wp2
    go_ret
    exact ⟨rfl, HB.out⟩
  | true =>
    obtain ⟨hq, hm1, hm2⟩ := wit_match HWIT.out (by have := HS0.out; omega) (by have := HS1.out; omega)
    have HM1 := Lib.hid hm1
    have HM2 := Lib.hid hm2
    clear hm1 hm2
    go_wp2_with fail
    refine (over_ans a0 a1 (by omega) (by omega) w3).mono ?_
    rintro e w4 ⟨r, rfl, hans, hb⟩
    obtain rfl : r = true := over_wit hans HWIT.out
    have HB4 := Lib.hid (HB3.out.trans (hb.mono HB3.out.size))
    clear hb hans
    go_wp2_with fail
    refine (gmatch_any a0 q w0 (by omega) w4).mono ?_
    rintro e w5 ⟨rfl, hb⟩
    rw [HM1.out]
    have HB5 := Lib.hid (HB4.out.trans (hb.mono HB4.out.size))
    clear hb
    go_wp2_with fail
    refine (gmatch_any a1 q w1 (by omega) w5).mono ?_
    rintro e w6 ⟨rfl, hb⟩
    rw [HM2.out]
    have HB6 := Lib.hid (HB5.out.trans (hb.mono HB5.out.size))
    clear hb
    go_wp2_with fail
    refine (LV.out _ HB6.out).mono ?_
    rintro e w7 ⟨rfl, hb⟩
    have HB := Lib.hid hb
    clear hb
    go_wp2
    go_ret
    exact ⟨rfl, HB.out⟩
end Go.Proofs.Ytnmbabaihfdljaa
