/- The walk over the law's lives, and the laws Adds and Later. -/
import Derived.Test.YtbhhjaflinfnfaaDoorDur3
namespace Go.Proofs.YtbhhjaflinfnfaaDoor
open Go.RowKit

theorem ev_parse : parseF [49, 104, 51, 48, 109] = (5400000, 0) := by decide +kernel
theorem ev_show : showF (limF 86400001).toNat = [49, 100, 49, 109, 115] := by decide +kernel
theorem ev_add : limF (satAdd 5 7) = 12 := by decide +kernel
theorem ev_el : elF 3 5 = 2 := by decide +kernel

/-- what the laws' end says: they return true, and what was there before stands -/
abbrev LawPost (w : World) (e : Ending) (w' : World) : Prop := e = .returned (.bool true) ∧ Below w.heap.size w w'

theorem str_lit {s : ByteArray} {l : List UInt8} (h : s.data.toList = l) : s = ⟨l.toArray⟩ := by
  cases s; simp at h; subst h; simp

set_option maxRecDepth 100000 in
set_option maxHeartbeats 1600000 in
theorem lives_any (w : World) (hu : UnitsAt w) (hp : Pow10At w) : Calls Tryd.prog 8 #[] w (LawPost w) := by
  have HU := Lib.hid hu
  have HP := Lib.hid hp
  clear hu hp
  go_enter Tryd.func8, Tryd.ntmps8
  go_wp2_with fail
  refine (parse_any ⟨#[49, 104, 51, 48, 109]⟩ (by decide) trivial w HU.out).mono ?_
  rintro e w1 ⟨he, hb⟩
  rw [show (⟨#[49, 104, 51, 48, 109]⟩ : ByteArray).data.toList = [49, 104, 51, 48, 109] from rfl, ev_parse] at he
  subst he
  have HB1 := Lib.hid hb
  clear hb
  go_wp2_with fail
  refine (show_any 86400001 w1 (HU.out.below HB1.out) (HP.out.below HB1.out)).mono ?_
  rw [ev_show]
  rintro e w2 ⟨s, rfl, hs, hb⟩
  obtain rfl := str_lit hs
  have HB2 := Lib.hid (HB1.out.trans (hb.mono HB1.out.size))
  clear hb hs
  go_wp2_with fail
  refine (durAdd_any 5 7 (by unfold isI; decide) (by unfold isI; decide) w2).mono ?_
  rw [ev_add]
  rintro e w3 ⟨rfl, rfl⟩
  go_wp2_with fail
  refine (elapsed_any 3 5 (by unfold isI; decide) (by unfold isI; decide) w3).mono ?_
  rw [ev_el]
  rintro e w4 ⟨rfl, rfl⟩
  go_wp2_with fail
  go_ret
  exact ⟨rfl, HB2.out⟩

set_option maxRecDepth 100000 in
set_option maxHeartbeats 1600000 in
theorem adds_law (a b : Int) (ha : isI a) (hb : isI b) (w : World) (hu : UnitsAt w) (hp : Pow10At w) : Calls Tryd.prog 5 #[.int .i64 a, .int .i64 b] w (LawPost w) := by
  have LV := Lib.hid (lives_any w hu hp)
  clear hu hp
  have HA := Lib.hid ha
  have HB := Lib.hid hb
  clear ha hb
  go_enter Tryd.func5, Tryd.ntmps5
  go_wp2_with fail
  refine (durAdd_any a b HA.out HB.out w).mono ?_
  rintro e w1 ⟨rfl, rfl⟩
  go_wp2_with fail
  refine (rdurAdd_any a b HA.out HB.out w1).mono ?_
  rintro e w2 ⟨rfl, rfl⟩
  generalize limF (satAdd a b) = x
  have hx : (x == x) = true := beq_self_eq_true x
  go_wp2_with fail
  refine (elapsed_any a b HA.out HB.out w2).mono ?_
  rintro e w3 ⟨rfl, rfl⟩
  go_wp2_with fail
  refine (relapsed_any a b HA.out HB.out w3).mono ?_
  rintro e w4 ⟨rfl, rfl⟩
  generalize elF a b = y
  have hy : (y == y) = true := beq_self_eq_true y
  go_wp2_with fail
  refine LV.out.mono ?_
  rintro e w5 ⟨rfl, hb⟩
  have HB5 := Lib.hid hb
  clear hb
  go_wp2_with fail
  go_ret
  exact ⟨rfl, HB5.out⟩

theorem isI_in {t : Int} (h1 : -9223372036854775808 ≤ t) (h2 : t ≤ 9223372036854775807) : isI t := ⟨h1, h2⟩

end Go.Proofs.YtbhhjaflinfnfaaDoor
