/- The walks over numbers and Compare. -/
import Derived.Test.YtghahghbahcpfaaGreatDoorNw1
import Derived.Test.YtghahghbahcpfaaGreatDoorShelf
namespace Go.Proofs.YtghahghbahcpfaaGreatDoor
open Go.RowKit

theorem numF_or (a b : Bs) : numF a b = orF (cmpN (stripF a).length (stripF b).length) (cmpS (stripF a) (stripF b)) (cmpN a.length b.length) := rfl

theorem size_arr (l : Bs) : (⟨l.toArray⟩ : ByteArray).size = l.length := by simp [ByteArray.size]

set_option maxRecDepth 100000 in
set_option maxHeartbeats 1600000 in
theorem numbers_any (a b : ByteArray) (w : World) : Calls Tryz.prog 139 #[.string a, .string b] w fun e w' => e = .returned (.int .i64 (numF a.data.toList b.data.toList)) ∧ Up w w' := by
  have HN := Lib.hid (numF_or a.data.toList b.data.toList)
  have HSA := Lib.hid (Lib.size_eq a)
  have HSB := Lib.hid (Lib.size_eq b)
  have hx : (⟨(stripF a.data.toList).toArray⟩ : ByteArray).size = (stripF a.data.toList).length := size_arr _
  have hy : (⟨(stripF b.data.toList).toArray⟩ : ByteArray).size = (stripF b.data.toList).length := size_arr _
  have HXD : Hid ((⟨(stripF a.data.toList).toArray⟩ : ByteArray).data.toList = stripF a.data.toList) := rfl
  have HYD : Hid ((⟨(stripF b.data.toList).toArray⟩ : ByteArray).data.toList = stripF b.data.toList) := rfl
  have TA : Hid (∀ W, Calls Tryz.prog 166 #[.string a, .string ⟨#[48]⟩] W fun e w' => e = .returned (.string ⟨(stripF a.data.toList).toArray⟩) ∧ w' = W) := fun W => Tryz.strings_TrimLeft_one a 48 (by decide) W
  have TB : Hid (∀ W, Calls Tryz.prog 166 #[.string b, .string ⟨#[48]⟩] W fun e w' => e = .returned (.string ⟨(stripF b.data.toList).toArray⟩) ∧ w' = W) := fun W => Tryz.strings_TrimLeft_one b 48 (by decide) W
  rw [← HSA.out, ← HSB.out, ← hx, ← hy, ← HXD.out, ← HYD.out] at HN
  clear HXD HYD hx hy HSA HSB
  generalize (⟨(stripF a.data.toList).toArray⟩ : ByteArray) = x at *
  generalize (⟨(stripF b.data.toList).toArray⟩ : ByteArray) = y at *
  go_enter Tryz.func139, Tryz.ntmps139
  go_wp2_with fail
  refine (TA.out w).mono ?_
  rintro e w1 ⟨rfl, rfl⟩
  go_wp2_with fail
  refine (TB.out w1).mono ?_
  rintro e w2 ⟨rfl, rfl⟩
  go_wp2_with fail
  refine (cmpI_any _ _ w2).mono ?_
  rintro e w3 ⟨rfl, rfl⟩
  generalize cmpN x.size y.size = k1 at *
  go_wp2_with fail
  refine (cmpS_any x y w3).mono ?_
  rintro e w4 ⟨rfl, rfl⟩
  generalize cmpS x.data.toList y.data.toList = k2 at *
  go_wp2_with fail
  refine (cmpI_any _ _ w4).mono ?_
  rintro e w5 ⟨rfl, rfl⟩
  generalize cmpN a.size b.size = k3 at *
  have HK0 : Hid ((w5.alloc (.cells #[.int .i64 k1, .int .i64 k2, .int .i64 k3] 3)).heap[w5.heap.size]? = some (.cells #[.int .i64 k1, .int .i64 k2, .int .i64 k3] 3)) := hp_new rfl
  go_wp2_with fail
  refine (or_any k1 k2 k3 w5.heap.size 3 _ (by rw [cell_of_blk HK0.out]; rfl) (by rw [cell_of_blk HK0.out]; rfl) (by rw [cell_of_blk HK0.out]; rfl)).mono ?_
  rintro e w6 ⟨rfl, rfl⟩
  go_wp2_with fail
  go_ret
  exact ⟨by rw [HN.out]; rfl, (Up.refl w5).alloc _⟩

theorem Up.drewN {w w1 : World} (h : Up w w1) (n : Nat) : Up w (w1.drewN n) := ⟨h.b.trans ⟨rfl, rfl, rfl, Nat.le_refl _, fun _ _ => rfl⟩, Nat.le_trans h.d (Nat.le_add_right _ _)⟩

def CmpRel (w1 : World) (l m : Bs) (f : Nat) (t0 t1 : Value) (wr : World) : Prop :=
  ∃ a b : ByteArray, t0 = .string a ∧ t1 = .string b ∧ f = a.size ∧ a.size ≤ 9223372036854775807 ∧ b.size ≤ 9223372036854775807 ∧ natC l m = natC a.data.toList b.data.toList ∧ Up w1 wr

theorem ne_size {a : ByteArray} (h : ¬ a.data.toList = []) : a.toList.isEmpty = false ∧ 0 < a.size := by
  cases hl : a.data.toList with
  | nil => exact absurd hl h
  | cons c r => have := str_cons hl; exact ⟨this.1, by omega⟩

set_option maxRecDepth 100000 in
set_option maxHeartbeats 3200000 in
theorem compare_any (a0 b0 : ByteArray) (ha : a0.size ≤ 9223372036854775807) (hb : b0.size ≤ 9223372036854775807) (w : World) : Calls Tryz.prog 97 #[.string a0, .string b0] w fun e w' => e = .returned (.int .i64 (natC a0.data.toList b0.data.toList)) ∧ Up w w' := by
  go_enter Tryz.func97, Tryz.ntmps97
  go_wp2_with fail
  go_loopg [0, 1] a0.size (CmpRel w a0.data.toList b0.data.toList)
  case atStart => exact ⟨a0, b0, rfl, rfl, rfl, ha, hb, rfl, Up.refl _⟩
  case round =>
    obtain ⟨a, b, rfl, rfl, rfl, hsa, hsb, hn, hup⟩ := hrel
    have HN := Lib.hid hn
    have HU := Lib.hid hup
    have HSA := Lib.hid (Lib.size_eq a)
    have HSB := Lib.hid (Lib.size_eq b)
    clear hn hup
    by_cases hae : a.data.toList = []
    · obtain ⟨e1, e2⟩ := str_nil hae
      have HR : Hid (natC a0.data.toList b0.data.toList = cmpN a.size b.size) := by unfold Hid; rw [HN.out, natC_end (.inl hae), ← HSA.out, ← HSB.out]
      clear hae
      as_aux_lemma =>
      go_wp2_with fail
      refine (cmpI_any 0 b.size wr).mono ?_
      rintro e w5 ⟨rfl, rfl⟩
      go_wp2_with fail
      go_ret
      exact ⟨by rw [HR.out, e2]; rfl, HU.out⟩
    · obtain ⟨e1, e2⟩ := ne_size hae
      by_cases hbe : b.data.toList = []
      · obtain ⟨f1, f2⟩ := str_nil hbe
        have HR : Hid (natC a0.data.toList b0.data.toList = cmpN a.size b.size) := by unfold Hid; rw [HN.out, natC_end (.inr hbe), ← HSA.out, ← HSB.out]
        clear hae hbe
        as_aux_lemma =>
        go_wp2_with fail
        refine (cmpI_any a.size 0 wr).mono ?_
        rintro e w5 ⟨rfl, rfl⟩
        go_wp2_with fail
        go_ret
        exact ⟨by rw [HR.out, f2]; rfl, HU.out⟩
      · obtain ⟨f1, f2⟩ := ne_size hbe
        have HD := Lib.hid (fun h0 h1 => nat_dig (a := a.data.toList) (b := b.data.toList) h0 h1)
        have HO := Lib.hid (fun h => nat_one (a := a.data.toList) (b := b.data.toList) hae hbe h)
        clear hae hbe
        have hla := runN_le a.data.toList
        have hlb := runN_le b.data.toList
        rw [← HSA.out] at hla
        rw [← HSB.out] at hlb
        have RA := fun W => Lib.hid (run_any a hsa W)
        have RB := fun W => Lib.hid (run_any b hsb W)
        have hca := str_at (s := a) rfl 0 e2
        have hcb := str_at (s := b) rfl 0 f2
        generalize a.data.toList.getD 0 0 = c at hca HO
        generalize b.data.toList.getD 0 0 = d at hcb HO
        generalize runN a.data.toList = n at *
        generalize runN b.data.toList = m at *
        go_wp2_with fail
        refine (RA wr).out.mono ?_
        rintro e w1 ⟨rfl, rfl⟩
        go_wp2_with fail
        refine (RB w1).out.mono ?_
        rintro e w2 ⟨rfl, rfl⟩
        by_cases hnm : 0 < n ∧ 0 < m
        · obtain ⟨hn, hm⟩ := hnm
          have hni : (0 : Int) < (n : Int) := by omega
          have hmi : (0 : Int) < (m : Int) := by omega
          have HD2 := Lib.hid (HD.out hn hm)
          clear HD HO hca hcb
          have EA : Hid ((a.extract 0 n).data.toList = a.data.toList.take n) := by unfold Hid; rw [Lib.extract_data]; simp
          have EB : Hid ((b.extract 0 m).data.toList = b.data.toList.take m) := by unfold Hid; rw [Lib.extract_data]; simp
          have FA : Hid ((a.extract n a.size).data.toList = a.data.toList.drop n) := by unfold Hid; rw [Lib.extract_data, List.take_of_length_le (by rw [List.length_drop, ← HSA.out]; omega)]
          have FB : Hid ((b.extract m b.size).data.toList = b.data.toList.drop m) := by unfold Hid; rw [Lib.extract_data, List.take_of_length_le (by rw [List.length_drop, ← HSB.out]; omega)]
          have sA : (a.extract n a.size).size = a.size - n := by rw [ByteArray.size_extract]; omega
          have sB : (b.extract m b.size).size = b.size - m := by rw [ByteArray.size_extract]; omega
          have NU : Hid (∀ W, Up w W → Calls Tryz.prog 139 #[.string (a.extract 0 n), .string (b.extract 0 m)] W fun e w' => e = .returned (.int .i64 (numF (a.data.toList.take n) (b.data.toList.take m))) ∧ Up w w') := fun W hW => (numbers_any (a.extract 0 n) (b.extract 0 m) W).mono (by
            rw [EA.out, EB.out]
            rintro e w' ⟨he, hb⟩
            exact ⟨he, hW.trans hb⟩)
          clear EA EB
          rw [← FA.out, ← FB.out] at HD2
          clear FA FB
          generalize numF (a.data.toList.take n) (b.data.toList.take m) = k at *
          have q3 : ((n : Int)).toNat = n := by omega
          have q4 : (n : Int) ≤ (a.size : Int) := by omega
          have r3 : ((m : Int)).toNat = m := by omega
          have r4 : (m : Int) ≤ (b.size : Int) := by omega
          have hU := HU.out
          by_cases hk : k = 0
          · subst hk
            rw [if_pos rfl] at HD2
            as_aux_lemma =>
            go_upto_region 4 with fail
            go_region_with (go_at_call 139; refine (NU.out _ (by first | exact hU | exact hU.drew)).mono ?_; rintro e wA ⟨rfl, hbA⟩)
            all_goals (
              go_wp2_with fail
              go_quiet (fail)
              go_wp2_with fail
              go_roundg (a.size - n)
              case measure => omega
              case rel => exact ⟨a.extract n a.size, b.extract m b.size, rfl, rfl, sA.symm, by omega, by omega, by rw [HN.out, HD2.out], by first | exact hbA | exact hbA.drew | exact hbA.drewN _ | exact hbA.drew.drewN _⟩)
          · rw [if_neg hk] at HD2
            have hkb : (k != 0) = true := by rw [bne_iff_ne]; exact hk
            clear hk
            as_aux_lemma =>
            go_upto_region 4 with fail
            go_region_with (go_at_call 139; refine (NU.out _ (by first | exact hU | exact hU.drew)).mono ?_; rintro e wA ⟨rfl, hbA⟩)
            all_goals (
              go_wp2_with fail
              go_ret
              exact ⟨by rw [HN.out, HD2.out]; rfl, by first | exact hbA | exact hbA.drew | exact hbA.drewN _ | exact hbA.drew.drewN _⟩)
        · have HO2 := Lib.hid (HO.out hnm)
          have hnm2 : n = 0 ∨ m = 0 := by omega
          have FA : Hid ((a.extract 1 a.size).data.toList = a.data.toList.drop 1) := by unfold Hid; rw [Lib.extract_data, List.take_of_length_le (by rw [List.length_drop, ← HSA.out]; omega)]
          have FB : Hid ((b.extract 1 b.size).data.toList = b.data.toList.drop 1) := by unfold Hid; rw [Lib.extract_data, List.take_of_length_le (by rw [List.length_drop, ← HSB.out]; omega)]
          have sA : (a.extract 1 a.size).size = a.size - 1 := by rw [ByteArray.size_extract]; omega
          have sB : (b.extract 1 b.size).size = b.size - 1 := by rw [ByteArray.size_extract]; omega
          rw [← FA.out, ← FB.out] at HO2
          clear FA FB HD HO
          have hU := HU.out
          have q4 : (1 : Int) ≤ (a.size : Int) := by omega
          have r4 : (1 : Int) ≤ (b.size : Int) := by omega
          have CB : Hid (∀ W, Up w W → Calls Tryz.prog 140 #[.int .u8 (c.toNat : Nat), .int .u8 (d.toNat : Nat)] W fun e w' => e = .returned (.int .i64 (cmpN c.toNat d.toNat)) ∧ Up w w') := fun W hW => (cmpB_any c.toNat d.toNat W).mono (by
            rintro e w' ⟨he, rfl⟩
            exact ⟨he, hW⟩)
          have hcd : cmpN c.toNat d.toNat = 0 ↔ c.toNat = d.toNat := ⟨cmpN_eq, fun h => by rw [h]; exact cmpN_po.refl _⟩
          by_cases hk : cmpN c.toNat d.toNat = 0
          · have hne : ((c.toNat : Int) != (d.toNat : Int)) = false := by
              have := hcd.1 hk
              simp [this]
            rw [if_pos hk] at HO2
            clear hk hcd
            rcases hnm2 with rfl | rfl
            · as_aux_lemma =>
              go_upto_region 8 with fail
              go_quiet (fail)
              go_wp2_with fail
              go_quiet (fail)
              go_wp2_with fail
              go_roundg (a.size - 1)
              case measure => omega
              case rel => exact ⟨a.extract 1 a.size, b.extract 1 b.size, rfl, rfl, sA.symm, by omega, by omega, by rw [HN.out, HO2.out], by first | exact hU | exact hU.drewN _ | exact (hU.drewN _).drewN _⟩
            · by_cases hn0 : n = 0
              · subst hn0
                as_aux_lemma =>
                go_upto_region 8 with fail
                go_quiet (fail)
                go_wp2_with fail
                go_quiet (fail)
                go_wp2_with fail
                go_roundg (a.size - 1)
                case measure => omega
                case rel => exact ⟨a.extract 1 a.size, b.extract 1 b.size, rfl, rfl, sA.symm, by omega, by omega, by rw [HN.out, HO2.out], by first | exact hU | exact hU.drewN _ | exact (hU.drewN _).drewN _⟩
              · have hn1 : (0 : Int) < (n : Int) := by omega
                as_aux_lemma =>
                go_upto_region 8 with fail
                go_quiet (fail)
                go_wp2_with fail
                go_quiet (fail)
                go_wp2_with fail
                go_roundg (a.size - 1)
                case measure => omega
                case rel => exact ⟨a.extract 1 a.size, b.extract 1 b.size, rfl, rfl, sA.symm, by omega, by omega, by rw [HN.out, HO2.out], by first | exact hU | exact hU.drewN _ | exact (hU.drewN _).drewN _⟩
          · have hne : ((c.toNat : Int) != (d.toNat : Int)) = true := by
              rw [bne_iff_ne]; intro h; exact hk (hcd.2 (by omega))
            rw [if_neg hk] at HO2
            clear hk hcd
            generalize cmpN c.toNat d.toNat = k at *
            rcases hnm2 with rfl | rfl
            · as_aux_lemma =>
              go_upto_region 8 with fail
              go_quiet (fail)
              go_upto_region 9 with fail
              go_region_with (go_at_call 140; refine (CB.out _ (by first | exact hU | exact hU.drew | exact hU.drewN _ | exact (hU.drewN _).drew)).mono ?_; rintro e wA ⟨rfl, hbA⟩)
              all_goals (
                go_wp2_with fail
                go_ret
                exact ⟨by rw [HN.out, HO2.out]; rfl, by first | exact hbA | exact hbA.drew⟩)
            · by_cases hn0 : n = 0
              · subst hn0
                as_aux_lemma =>
                go_upto_region 8 with fail
                go_quiet (fail)
                go_upto_region 9 with fail
                go_region_with (go_at_call 140; refine (CB.out _ (by first | exact hU | exact hU.drew | exact hU.drewN _ | exact (hU.drewN _).drew)).mono ?_; rintro e wA ⟨rfl, hbA⟩)
                all_goals (
                  go_wp2_with fail
                  go_ret
                  exact ⟨by rw [HN.out, HO2.out]; rfl, by first | exact hbA | exact hbA.drew⟩)
              · have hn1 : (0 : Int) < (n : Int) := by omega
                as_aux_lemma =>
                go_upto_region 8 with fail
                go_quiet (fail)
                go_upto_region 9 with fail
                go_region_with (go_at_call 140; refine (CB.out _ (by first | exact hU | exact hU.drew | exact hU.drewN _ | exact (hU.drewN _).drew)).mono ?_; rintro e wA ⟨rfl, hbA⟩)
                all_goals (
                  go_wp2_with fail
                  go_ret
                  exact ⟨by rw [HN.out, HO2.out]; rfl, by first | exact hbA | exact hbA.drew⟩)
end Go.Proofs.YtghahghbahcpfaaGreatDoor
