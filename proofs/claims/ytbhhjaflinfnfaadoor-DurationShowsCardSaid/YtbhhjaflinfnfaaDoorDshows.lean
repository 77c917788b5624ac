/- The walk over the law Shows. -/
import Derived.Test.YtbhhjaflinfnfaaDoorDplain
import Derived.Test.YtbhhjaflinfnfaaDoorDlives
namespace Go.Proofs.YtbhhjaflinfnfaaDoor
open Go.RowKit

set_option maxRecDepth 100000 in
set_option maxHeartbeats 3200000 in
theorem shows_law (n : Int) (hn : isI n) (w : World) (hu : UnitsAt w) (hp : Pow10At w) : Calls Tryd.prog 4 #[.int .i64 n] w (LawPost w) := by
  have LV : Hid (∀ W, Below w.heap.size w W → Calls Tryd.prog 8 #[] W (LawPost W)) := fun W hW => lives_any W (UnitsAt.below hu hW) (Pow10At.below hp hW)
  have SH := Lib.hid (show_any n w hu hp)
  have HU := Lib.hid hu
  clear hu hp hn
  obtain ⟨n0, hn0, hn1, hn2⟩ : ∃ n0 : Nat, limF n = (n0 : Int) ∧ (limF n).toNat = n0 ∧ n0 ≤ 1125899906842624 := ⟨(limF n).toNat, by unfold limF; omega, rfl, by unfold limF; omega⟩
  have HN0 := Lib.hid hn0
  have RS := fun W => Lib.hid (rshow_any n W)
  rw [hn1] at SH RS
  have HP := Lib.hid (parse_show n0 hn2)
  have HAS := Lib.hid (show_ascii n0)
  have hlen := show_len n0 hn2
  clear hn0 hn1
  generalize showF n0 = l at *
  go_enter Tryd.func4, Tryd.ntmps4
  go_wp2_with fail
  refine SH.out.mono ?_
  rintro e w1 ⟨s, rfl, hs, hb⟩
  have HB1 := Lib.hid hb
  have HSL := Lib.hid hs
  have hsz : s.size ≤ 1000 := by rw [Lib.size_eq, hs]; omega
  have HAC : Hid (asciiF s.data.toList) := by
    intro j b hj
    rw [hs] at hj
    exact HAS.out b (List.mem_of_getElem? hj)
  clear hb hs
  go_wp2_with fail
  refine (parse_any s hsz HAC.out w1 (HU.out.below HB1.out)).mono ?_
  rintro e w2 ⟨he, hb⟩
  rw [HSL.out, HP.out] at he
  subst he
  have HB2 := Lib.hid (HB1.out.trans (hb.mono HB1.out.size))
  clear hb
  go_wp2_with fail
  refine (RS w2).out.mono ?_
  rintro e w3 ⟨s', rfl, hs, hb⟩
  obtain rfl : s' = s := by rw [str_lit hs, str_lit HSL.out]
  have HB3 := Lib.hid (HB2.out.trans (hb.mono HB2.out.size))
  clear hb hs
  have ts : (s'.toList == s'.toList) = true := beq_self_eq_true _
  go_wp2_with fail
  refine (rlimit_any n w3).mono ?_
  rw [HN0.out]
  rintro e w4 ⟨rfl, rfl⟩
  have tn : ((n0 : Int) == (n0 : Int)) = true := beq_self_eq_true _
  go_wp2_with fail
  refine (LV.out _ HB3.out).mono ?_
  rintro e w5 ⟨rfl, hb⟩
  have HB5 := Lib.hid (HB3.out.trans (hb.mono HB3.out.size))
  clear hb
  go_wp2_with fail
  go_ret
  exact ⟨rfl, HB5.out⟩
end Go.Proofs.YtbhhjaflinfnfaaDoor
