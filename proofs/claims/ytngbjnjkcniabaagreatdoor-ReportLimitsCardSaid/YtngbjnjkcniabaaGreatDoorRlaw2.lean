/- The walks over the laws ReportParses and ReportShows. -/
import Derived.Test.YtngbjnjkcniabaaGreatDoorRlaw1
import Derived.Test.YtngbjnjkcniabaaGreatDoorRr3
import Derived.Test.YtngbjnjkcniabaaGreatDoorRr5
namespace Go.Proofs.YtngbjnjkcniabaaGreatDoor
open Go.RowKit

theorem qv_inj : ∀ {l m : List Qu}, l.map qv = m.map qv → l = m
  | [], [], _ => rfl
  | [], _ :: _, h => by cases h
  | _ :: _, [], h => by cases h
  | a :: l, b :: m, h => by
    rw [List.map_cons, List.map_cons] at h
    injection h with h1 h2
    obtain ⟨n1, s1, t1⟩ := a
    obtain ⟨n2, s2, t2⟩ := b
    unfold qv at h1
    simp only [Prod.mk.injEq] at h1
    obtain ⟨e1, e2, e3⟩ := h1
    rw [data_injR e1, e2, e3, qv_inj h2]
theorem qu_qv (A : List TR) : (A.map qu).map qv = A.map rv := by
  rw [List.map_map]
  exact List.map_congr_left fun r _ => by simp [qu, qv, rv]
theorem tr_qv {rs : List Qu} (h : ∀ q ∈ rs, ¬ badR q ∧ ¬ rangeR q) : (rs.map tr).map rv = rs.map qv := by
  rw [List.map_map]
  refine List.map_congr_left fun q hq => ?_
  have h1 := bad_not (h q hq).1
  have h2 := range_not (h q hq).2
  simp only [Function.comp, tr, rv, qv]
  rw [Int.toNat_of_nonneg (by omega), Int.toNat_of_nonneg h2.1]
theorem parse_shape : ∀ (f n : Nat) (acc : List TR) (s : List UInt8), (∃ A, parseTo f n acc s = (A, 0, 0)) ∨ ∃ m e, parseTo f n acc s = ([], m, e + 1)
  | 0, _, acc, _ => .inl ⟨acc, rfl⟩
  | f + 1, n, acc, s => by
    rw [parseTo]
    by_cases h1 : s = []
    · rw [if_pos h1]; exact .inl ⟨acc, rfl⟩
    · rw [if_neg h1]
      by_cases h2 : 4096 < n
      · rw [if_pos h2]; exact .inr ⟨n, 14, rfl⟩
      · rw [if_neg h2]
        by_cases h3 : Lib.index s [10] < 0
        · rw [if_pos h3]; exact .inr ⟨n, 4, rfl⟩
        · rw [if_neg h3]
          generalize oneF _ = o
          obtain ⟨e, r⟩ := o
          cases e with
          | succ e => exact .inr ⟨n, e, rfl⟩
          | zero =>
            by_cases h4 : r.1 ∈ acc.map (·.1)
            · refine .inr ⟨n, 6, ?_⟩
              show (if r.1 ∈ acc.map (·.1) then _ else _) = _
              rw [if_pos h4]
            · have ih := parse_shape f (n + 1) (acc ++ [r]) (s.drop ((Lib.index s [10]).toNat + 1))
              show (∃ A, (if r.1 ∈ acc.map (·.1) then _ else _) = _) ∨ ∃ m e, (if r.1 ∈ acc.map (·.1) then _ else _) = _
              rw [if_neg h4]
              exact ih
/-- what a text is read as, both ways -/
theorem parse_two (s : List UInt8) : (∃ rs : List Qu, parseF s = (rs.map tr, 0, 0) ∧ (∀ qs : List Qu, qs.map qv = (parseF s).1.map rv → qs = rs) ∧ showV rs = s ∧ rs.length ≤ 4096) ∨ ∃ m e, parseF s = ([], m, e + 1) ∧ ∀ qs : List Qu, qs.map qv = (parseF s).1.map rv → qs = [] := by
  rcases parse_shape (s.length + 1) 1 [] s with ⟨A, h⟩ | ⟨m, e, h⟩
  · left
    change parseF s = _ at h
    refine ⟨A.map qu, ?_, fun qs hq => ?_, show_parsed h, ?_⟩
    · rw [h, List.map_map]
      refine congrArg (·, 0, 0) ?_
      conv => lhs; rw [← List.map_id A]
      exact List.map_congr_left fun r _ => by simp [qu, tr]
    · rw [h, ← qu_qv] at hq
      exact qv_inj hq
    · obtain ⟨B, hA, _, _, hb⟩ := read_back _ _ _ _ _ h (Nat.lt_succ_self _) (by decide)
      rw [List.nil_append] at hA
      rw [List.length_map, hA]
      omega
  · right
    change parseF s = _ at h
    exact ⟨m, e, h, fun qs hq => by rw [h] at hq; simpa using hq⟩
theorem str_bytes {s : ByteArray} {t : ByteArray} (h : s.data.toList = t.data.toList) : (s.toList == t.toList) = true := by
  rw [Lib.toList_data, Lib.toList_data, h]; exact beq_self_eq_true _

set_option maxRecDepth 100000 in
set_option maxHeartbeats 1600000 in
theorem parses_law (s : ByteArray) (w : World) (hB : Base36 w) : Calls Tryz.prog 3 #[.string s] w (LawPost w) := by
  have LV := Lib.hid (lives_at hB)
  have HBA := Lib.hid hB
  clear hB
  go_enter Tryz.func3, Tryz.ntmps3
  by_cases hl : 4000 < s.size
  · have hli : (4000 : Int) < (s.size : Int) := by omega
    go_wp2_with fail
    refine (LV.out _ (Below.refl _ _)).mono ?_
    rintro e w9 ⟨rfl, hb⟩
    have HB := Lib.hid hb
    clear hb
    go_wp2_with fail
    go_ret
    exact ⟨rfl, HB.out⟩
  · have hli : ¬ (4000 : Int) < (s.size : Int) := by omega
    go_wp2_with fail
    refine (parse_b s (by omega) w HBA.out).mono ?_
    rintro e w1 ⟨v1, q1, rfl, hr1, hm1, hb⟩
    have HB1 := Lib.hid hb
    have HA1 := Lib.hid (TrRow.at hr1)
    clear hb hr1
    change q1.map qv = _ at hm1
    go_wp2_with fail
    refine (rparse_any s (by omega) w1).mono ?_
    rintro e w2 ⟨v2, q2, rfl, hr2, hm2, hb⟩
    have HB2 := Lib.hid (HB1.out.trans (hb.mono HB1.out.size))
    have HA2 := Lib.hid (TrRow.at hr2)
    have HA12 := Lib.hid (SlAt.below HA1.out hb)
    clear hb hr2
    rcases parse_two s.data.toList with ⟨rs, hp, hu, hs, hlen⟩ | ⟨m, er, hp, hu⟩
    · obtain rfl := hu _ hm1
      obtain rfl := hu _ hm2
      rw [hp]
      have HS := Lib.hid hs
      clear hm1 hm2 hu hp hs hli
      go_wp2_with fail
      refine (same36_any v1 v2 q2 (by omega) w2 HA12.out HA2.out).mono ?_
      rintro e w3 ⟨rfl, hb⟩
      have HB3 := Lib.hid (HB2.out.trans (hb.mono HB2.out.size))
      have HA13 := Lib.hid (SlAt.below HA12.out hb)
      clear hb
      go_wp2_with fail
      refine (show_b v1 q2 w3 HA13.out (HBA.out.below HB3.out)).mono ?_
      rintro e w4 ⟨t, rfl, ht, hb⟩
      have HB4 := Lib.hid (HB3.out.trans (hb.mono HB3.out.size))
      have hts := str_bytes (s := t) (t := s) (ht.trans HS.out)
      clear hb ht
      go_wp2_with fail
      refine (LV.out _ HB4.out).mono ?_
      rintro e w9 ⟨rfl, hb⟩
      have HB := Lib.hid hb
      clear hb
      go_wp2_with fail
      go_ret
      exact ⟨rfl, HB.out⟩
    · obtain rfl := hu _ hm1
      obtain rfl := hu _ hm2
      rw [hp]
      clear hm1 hm2 hu hp hli
      have te : (((er + 1 : Nat) : Int) != 0) = true := by rw [bne_iff_ne]; omega
      have te' : ((er : Int) + 1 != 0) = true := by rw [bne_iff_ne]; omega
      go_wp2_with fail
      refine (same36_any v1 v2 [] (by decide) w2 HA12.out HA2.out).mono ?_
      rintro e w3 ⟨rfl, hb⟩
      have HB3 := Lib.hid (HB2.out.trans (hb.mono HB2.out.size))
      clear hb
      go_wp2_with fail
      refine (LV.out _ HB3.out).mono ?_
      rintro e w9 ⟨rfl, hb⟩
      have HB := Lib.hid hb
      clear hb
      go_wp2_with fail
      go_ret
      exact ⟨rfl, HB.out⟩

set_option maxRecDepth 100000 in
set_option maxHeartbeats 1600000 in
theorem shows_law (v : Value) (rs : List Qu) (w : World) (h : QuAt w v rs) (hc : SlC v) (hB : Base36 w) :
    Calls Tryz.prog 4 #[v] w (LawPost w) := by
  have LV := Lib.hid (lives_at hB)
  have HBA := Lib.hid hB
  have H := Lib.hid h
  have HC := Lib.hid hc
  clear h hc hB
  go_enter Tryz.func4, Tryz.ntmps4
  go_wp2_with fail
  refine (few_any v rs w H.out).mono ?_
  rintro e w1 ⟨rfl, rfl⟩
  cases hf : fewF rs with
  | false =>
    clear hf
    go_wp2_with fail
    refine (LV.out _ (Below.refl _ _)).mono ?_
    rintro e w9 ⟨rfl, hb⟩
    have HB := Lib.hid hb
    clear hb
    go_wp2_with fail
    go_ret
    exact ⟨rfl, HB.out⟩
  | true =>
    have hl : rs.length ≤ 60 := (fewF_all hf).1
    clear hf
    go_wp2_with fail
    refine (valid_b v rs _ H.out HBA.out).mono ?_
    rintro e w2 ⟨rfl, hb⟩
    have HB2 := Lib.hid hb
    clear hb
    go_wp2_with fail
    refine (show_b v rs w2 (SlAt.below H.out HB2.out) (HBA.out.below HB2.out)).mono ?_
    rintro e w3 ⟨t, rfl, ht, hb⟩
    have HB3 := Lib.hid (HB2.out.trans (hb.mono HB2.out.size))
    have HT := Lib.hid ht
    clear hb ht
    go_wp2_with fail
    refine (rvalid_any v rs w3 (SlAt.below H.out HB3.out) HC.out).mono ?_
    rintro e w4 ⟨rfl, hb⟩
    have HB4 := Lib.hid (HB3.out.trans (hb.mono HB3.out.size))
    clear hb
    go_wp2_with fail
    refine (rshow_any v rs w4 (SlAt.below H.out HB4.out) HC.out).mono ?_
    rintro e w5 ⟨t2, rfl, ht2, hb⟩
    have HB5 := Lib.hid (HB4.out.trans (hb.mono HB4.out.size))
    obtain rfl : t2 = t := data_injR (ht2.trans HT.out.symm)
    have hts : (t2.toList == t2.toList) = true := beq_self_eq_true _
    clear hb ht2
    have hsz : t2.size ≤ 900000 := by
      rw [Lib.size_eq, HT.out]
      unfold showV
      split
      · rename_i h0
        have := linesV_len rs fun q hq => vTo_all [] rs (validR_all h0).2 q hq
        omega
      · exact Nat.zero_le _
    go_wp2_with fail
    refine (parse_b t2 hsz w5 (HBA.out.below HB5.out)).mono ?_
    rintro e w6 ⟨v6, q6, rfl, hr6, hm6, hb⟩
    have HB6 := Lib.hid (HB5.out.trans (hb.mono HB5.out.size))
    have HA6 := Lib.hid (TrRow.at hr6)
    have H6 := Lib.hid (SlAt.below H.out HB6.out)
    change q6.map qv = (parseF t2.data.toList).1.map rv at hm6
    clear hb hr6 hsz
    by_cases hv : validR rs = 0
    · have hp : parseF t2.data.toList = (rs.map tr, 0, 0) := by
        rw [HT.out]
        unfold showV
        rw [if_pos hv]
        exact parse_lines hv
      rw [hp] at hm6
      rw [hp]
      change q6.map qv = (rs.map tr).map rv at hm6
      rw [tr_qv (fun q hq => vTo_all [] rs (validR_all hv).2 q hq)] at hm6
      obtain rfl := qv_inj hm6
      rw [hv]
      clear hm6 hp hv
      go_wp2_with fail
      refine (same36_any v6 v q6 (by omega) w6 HA6.out H6.out).mono ?_
      rintro e w7 ⟨rfl, hb⟩
      have HB7 := Lib.hid (HB6.out.trans (hb.mono HB6.out.size))
      clear hb
      go_wp2_with fail
      refine (LV.out _ HB7.out).mono ?_
      rintro e w9 ⟨rfl, hb⟩
      have HB := Lib.hid hb
      clear hb
      go_wp2_with fail
      go_ret
      exact ⟨rfl, HB.out⟩
    · have t0 : (((validR rs : Nat) : Int) != 0) = true := by rw [bne_iff_ne]; omega
      clear hv hm6
      generalize parseF t2.data.toList = pp at *
      go_wp2_with fail
      refine (LV.out _ HB6.out).mono ?_
      rintro e w9 ⟨rfl, hb⟩
      have HB := Lib.hid hb
      clear hb
      go_wp2_with fail
      go_ret
      exact ⟨rfl, HB.out⟩
end Go.Proofs.YtngbjnjkcniabaaGreatDoor
