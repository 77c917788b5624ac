/- The law DurationParses, walked: it returns true at every text. -/
import Derived.Test.YtbhhjaflinfnfaaDoorRPar1
import Derived.Test.YtbhhjaflinfnfaaDoorDpar2
import Derived.Test.YtbhhjaflinfnfaaDoorDlives
namespace Go.Proofs.YtbhhjaflinfnfaaDoor
open Go.RowKit

set_option maxRecDepth 100000 in
set_option maxHeartbeats 1600000 in
theorem parses_law (s : ByteArray) (w : World) (hu : UnitsAt w) (hp : Pow10At w) : Calls Tryd.prog 3 #[.string s] w (LawPost w) := by
  have LV : Hid (∀ W, Below w.heap.size w W → Calls Tryd.prog 8 #[] W (LawPost W)) := fun W hW => lives_any W (UnitsAt.below hu hW) (Pow10At.below hp hW)
  have SH : Hid (∀ (n : Int) W, Below w.heap.size w W → Calls Tryd.prog 11 #[.int .i64 n] W (ShowPost (showF (limF n).toNat) W)) := fun n W hW => show_any n W (UnitsAt.below hu hW) (Pow10At.below hp hW)
  have HU := Lib.hid hu
  clear hu hp
  go_enter Tryd.func3, Tryd.ntmps3
  by_cases hs : s.size ≤ 1000
  · have hsz : ¬ (1000 : Int) < (s.size : Int) := by omega
    have HRF := Lib.hid (ref_same s.data.toList)
    have HPC : Hid (∀ n, parseF s.data.toList = (n, 0) → n ≤ 1125899906842624 ∧ showF n = s.data.toList) := fun n h => parse_canon h
    go_wp2_with fail
    refine (parse_any s hs trivial w HU.out).mono ?_
    rintro e w1 ⟨rfl, hb⟩
    have HB1 := Lib.hid hb
    clear hb
    obtain ⟨p, hpp⟩ : ∃ p, parseF s.data.toList = p := ⟨_, rfl⟩
    rw [hpp] at HRF HPC
    rw [hpp]
    clear hpp
    obtain ⟨n, k⟩ := p
    go_wp2_with fail
    refine (rparse_any s hs w1).mono ?_
    rintro e w2 ⟨he, hb⟩
    rw [HRF.out] at he
    subst he
    have HB2 := Lib.hid (HB1.out.trans (hb.mono HB1.out.size))
    clear hb
    have tn : ((n : Int) == (n : Int)) = true := beq_self_eq_true _
    have tk : ((k : Int) == (k : Int)) = true := beq_self_eq_true _
    by_cases hk : k = 0
    · subst hk
      obtain ⟨hn, hsh⟩ := HPC.out n rfl
      have hlim : limF (n : Int) = (n : Int) := by unfold limF; omega
      have t0 : (0 : Int) ≤ (n : Int) := by omega
      have t1 : (n : Int) ≤ 1125899906842624 := by omega
      have HSH : Hid (Calls Tryd.prog 11 #[.int .i64 (n : Int)] w2 (ShowPost s.data.toList w2)) := by
        have h := SH.out (n : Int) w2 HB2.out
        rw [hlim, show ((n : Int)).toNat = n from Int.toNat_natCast n, hsh] at h
        exact h
      clear hsh hlim hn HPC HRF
      go_wp2_with fail
      refine HSH.out.mono ?_
      rintro e w3 ⟨s', rfl, hs', hb⟩
      obtain rfl : s' = s := by rw [str_lit hs', ← Lib.mk_data s]
      have HB3 := Lib.hid (HB2.out.trans (hb.mono HB2.out.size))
      clear hb hs'
      have ts : (s'.toList == s'.toList) = true := beq_self_eq_true _
      go_wp2_with fail
      refine (LV.out _ HB3.out).mono ?_
      rintro e w5 ⟨rfl, hb⟩
      have HB5 := Lib.hid (HB3.out.trans (hb.mono HB3.out.size))
      clear hb
      go_wp2_with fail
      go_ret
      exact ⟨rfl, HB5.out⟩
    · have tz : (!((k : Int) == 0)) = true := by
        have : ((k : Int) == 0) = false := by rw [beq_eq_false_iff_ne]; omega
        rw [this]; rfl
      have tz2 : ((k : Int) == 0) = false := by rw [beq_eq_false_iff_ne]; omega
      clear HPC HRF
      go_wp2_with fail
      refine (LV.out _ HB2.out).mono ?_
      rintro e w5 ⟨rfl, hb⟩
      have HB5 := Lib.hid (HB2.out.trans (hb.mono HB2.out.size))
      clear hb
      go_wp2_with fail
      go_ret
      exact ⟨rfl, HB5.out⟩
  · have hsz : (1000 : Int) < (s.size : Int) := by omega
    go_wp2_with fail
    refine (LV.out _ (Below.refl _ _)).mono ?_
    rintro e w5 ⟨rfl, hb⟩
    have HB5 := Lib.hid hb
    clear hb
    go_wp2_with fail
    go_ret
    exact ⟨rfl, HB5.out⟩
end Go.Proofs.YtbhhjaflinfnfaaDoor
