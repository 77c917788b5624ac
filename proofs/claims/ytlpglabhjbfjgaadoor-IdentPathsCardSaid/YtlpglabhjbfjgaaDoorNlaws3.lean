/- The walk over the law Paths. -/
import Derived.Test.YtlpglabhjbfjgaaDoorNw8
import Derived.Test.YtlpglabhjbfjgaaDoorNlaws1
namespace Go.Proofs.YtlpglabhjbfjgaaDoor
open Go.RowKit

theorem two_parts {s : ByteArray} {w1 w2 : World} {v1 v2 : Value} {ss1 ss2 : List ByteArray} (h1 : partsF s.data.toList = 0 → StrsAt w1 v1 ss1 ∧ ss1.map (·.data.toList) = pcs 47 s.data.toList) (n1 : partsF s.data.toList ≠ 0 → v1 = .slice none 0 0)
    (h2 : partsF s.data.toList = 0 → StrsAt w2 v2 ss2 ∧ ss2.map (·.data.toList) = pcs 47 s.data.toList) (n2 : partsF s.data.toList ≠ 0 → v2 = .slice none 0 0) (hb : Below w1.heap.size w1 w2) :
    ∃ zs : List ByteArray, zs.length ≤ 513 ∧ StrsAt w2 v1 zs ∧ StrsAt w2 v2 zs ∧ (partsF s.data.toList = 0 → datas zs = pcs 47 s.data.toList) := by
  by_cases h : partsF s.data.toList = 0
  · obtain ⟨a1, b1⟩ := h1 h
    obtain ⟨a2, b2⟩ := h2 h
    obtain rfl : ss1 = ss2 := datas_inj _ _ (b1.trans b2.symm)
    refine ⟨ss1, ?_, a1.below hb, a2, fun _ => b1⟩
    have := congrArg List.length b1
    rw [List.length_map] at this
    have h3 := (partsF_zero h).1
    have h4 := pcs_len 47 s.data.toList
    omega
  · obtain rfl := n1 h
    obtain rfl := n2 h
    exact ⟨[], by decide, .inl ⟨_, _, rfl, rfl⟩, .inl ⟨_, _, rfl, rfl⟩, fun k => absurd k h⟩

set_option maxRecDepth 100000 in
set_option maxHeartbeats 3200000 in
theorem paths_law (u : Value) (xs : List ByteArray) (s : ByteArray) (m : Int) (w : World) (_hx : ∀ s ∈ xs, s.size ≤ 9223372036854775807) (hu : StrsAt w u xs) (hm : w.cell? ⟨0, 0, none⟩ = some (.int .i64 m)) (hg : 0 < w.heap.size) : Calls Tryd.prog 4 #[u, .string s] w (LawPost w) := by
  have LV := Lib.hid (lives_at hm hg)
  have MX : Hid (∀ W, Below w.heap.size w W → W.cell? ⟨0, 0, none⟩ = some (.int .i64 m) ∧ 0 < W.heap.size) := fun W hW => ⟨(hW.cell (p := ⟨0, 0, none⟩) hg).trans hm, Nat.lt_of_lt_of_le hg hW.size⟩
  clear hm hg
  have B0 := Lib.hid (Below.refl w.heap.size w)
  have HU := Lib.hid hu
  clear hu
  go_enter Tryd.func4, Tryd.ntmps4
  go_wp2_with fail
  refine (few_any u xs 300 (by decide) w HU.out).mono ?_
  rintro e w1 ⟨rfl, rfl⟩
  cases hf : fewF xs 300 with
  | false =>
    clear hf
    go_wp2_with fail
    refine (LV.out _ B0.out).mono ?_
    rintro e w9 ⟨rfl, hb⟩
    have HB := Lib.hid hb
    clear hb
    go_wp2_with fail
    go_ret
    exact ⟨rfl, HB.out⟩
  | true =>
    have hx1 := (fewF_true.1 hf).1
    clear hf
    by_cases ha : 1000 < s.size
    · have hb1 : (1000 : Int) < (s.size : Int) := by omega
      go_wp2_with fail
      refine (LV.out _ B0.out).mono ?_
      rintro e w9 ⟨rfl, hb⟩
      have HB := Lib.hid hb
      clear hb
      go_wp2_with fail
      go_ret
      exact ⟨rfl, HB.out⟩
    · have hb1 : decide ((1000 : Int) < (s.size : Int)) = false := by simp; omega
      clear ha
      go_wp2_with fail
      refine (path_any u xs (by omega) w1 HU.out).mono ?_
      rintro e w2 ⟨p, rfl, hp, hb⟩
      have B2 := Lib.hid hb
      have HP := Lib.hid hp
      clear hb hp
      go_wp2_with fail
      refine (rpath_any u xs (by omega) w2 (HU.out.below B2.out)).mono ?_
      rintro e w3 ⟨q, rfl, hq, hb⟩
      obtain rfl : q = p := by rw [str_lit hq, str_lit HP.out]
      have B3 := Lib.hid (B2.out.trans (hb.mono B2.out.size))
      clear hb hq
      go_wp2_with fail
      refine (parts_any s m w3 (MX.out _ B3.out).1).mono ?_
      rintro e w4 ⟨v1, ss1, rfl, hb, h1, n1⟩
      have B4 := Lib.hid (B3.out.trans (hb.mono B3.out.size))
      have H1 := Lib.hid h1
      have N1 := Lib.hid n1
      clear hb h1 n1
      go_wp2_with fail
      refine (rparts_any s w4).mono ?_
      rintro e w5 ⟨v2, ss2, rfl, hb, h2, n2⟩
      have B5 := Lib.hid (B4.out.trans (hb.mono B4.out.size))
      obtain ⟨zs, hzl, hz1, hz2, hz3⟩ := two_parts H1.out N1.out h2 n2 hb
      have Z1 := Lib.hid hz1
      have Z2 := Lib.hid hz2
      have Z3 := Lib.hid hz3
      clear hb h2 n2 H1 N1 hz1 hz2 hz3
      have hqq : (q.toList == q.toList) = true := beq_self_eq_true _
      have hqn : (!q.toList == q.toList) = false := by rw [hqq]; rfl
      have hss : (s.toList == s.toList) = true := beq_self_eq_true _
      have hsn : (!s.toList == s.toList) = false := by rw [hss]; rfl
      have K1 : Hid (pathN (datas xs) = 0 → partsF q.data.toList = 0 ∧ pcs 47 q.data.toList = datas xs) := fun h => by
        have e : q.data.toList = jn (datas xs) := by have := HP.out; unfold pathS at this; rwa [if_pos h] at this
        rw [e]
        exact ⟨parts_path h, pcs_path h⟩
      have K2 : Hid (partsF s.data.toList = 0 → pathN (datas zs) = 0 ∧ pathS (datas zs) = s.data.toList) := fun h => by
        have e := path_parts h
        rw [Z3.out h]
        refine ⟨e, ?_⟩
        unfold pathS
        rw [if_pos e, jn_pcs]
      have SM := Lib.hid (same_any v1 v2 zs zs (by omega) w5 Z1.out Z2.out)
      rw [decide_eq_true (rfl : zs = zs)] at SM
      clear Z2 Z3 HP
      have hk1 : ((pathN (datas xs) : Int) != (pathN (datas xs) : Int)) = false := by simp
      have hk2 : ((partsF s.data.toList : Int) != (partsF s.data.toList : Int)) = false := by simp
      go_wp2_with fail
      refine SM.out.mono ?_
      rintro e w6 ⟨rfl, hb⟩
      have B6 := Lib.hid (B5.out.trans (hb.mono B5.out.size))
      have Z6 := Lib.hid (Z1.out.below hb)
      clear hb SM Z1
      by_cases h1 : pathN (datas xs) = 0
      · obtain ⟨k1, k2⟩ := K1.out h1
        rw [h1] at hk1 ⊢
        clear h1 K1
        have PP := Lib.hid (parts_any q m w6 (MX.out _ B6.out).1)
        go_wp2_with fail
        refine PP.out.mono ?_
        rintro e w7 ⟨v3, ss3, he, hb, h3, _⟩
        obtain ⟨hat, hss3⟩ := h3 k1
        rw [k2] at hss3
        obtain rfl : ss3 = xs := datas_inj _ _ hss3
        rw [k1] at he
        subst he
        have B7 := Lib.hid (B6.out.trans (hb.mono B6.out.size))
        have Z7 := Lib.hid (Z6.out.below hb)
        have SX := Lib.hid (same_any v3 u ss3 ss3 (by omega) w7 hat (HU.out.below B7.out))
        rw [decide_eq_true (rfl : ss3 = ss3)] at SX
        clear hb h3 hat hss3 k1 k2 PP
        go_wp2_with fail
        refine SX.out.mono ?_
        rintro e w8 ⟨rfl, hb⟩
        have B8 := Lib.hid (B7.out.trans (hb.mono B7.out.size))
        have Z8 := Lib.hid (Z7.out.below hb)
        clear hb SX
        by_cases h2 : partsF s.data.toList = 0
        · have K3 := Lib.hid (K2.out h2)
          have PT := Lib.hid (path_any v1 zs (by omega) w8 Z8.out)
          rw [h2] at hk2 ⊢
          clear h2 K2
          go_wp2_with fail
          refine PT.out.mono ?_
          rintro e wp ⟨r, he, hr, hb⟩
          rw [K3.out.1] at he
          rw [K3.out.2] at hr
          obtain rfl : r = s := by rw [str_lit hr, Lib.mk_data]
          subst he
          have BP := Lib.hid (B8.out.trans (hb.mono B8.out.size))
          clear hb hr
          go_wp2_with fail
          refine (LV.out _ BP.out).mono ?_
          rintro e w9 ⟨rfl, hb⟩
          have HB := Lib.hid hb
          clear hb
          go_wp2_with fail
          go_ret
          exact ⟨rfl, HB.out⟩
        · have h2b : ((partsF s.data.toList : Int) == 0) = false := by rw [beq_eq_false_iff_ne]; omega
          clear h2 K2
          go_wp2_with fail
          refine (LV.out _ B8.out).mono ?_
          rintro e w9 ⟨rfl, hb⟩
          have HB := Lib.hid hb
          clear hb
          go_wp2_with fail
          go_ret
          exact ⟨rfl, HB.out⟩
      · have h1b : ((pathN (datas xs) : Int) == 0) = false := by rw [beq_eq_false_iff_ne]; omega
        clear h1 K1
        by_cases h2 : partsF s.data.toList = 0
        · have K3 := Lib.hid (K2.out h2)
          have PT := Lib.hid (path_any v1 zs (by omega) w6 Z6.out)
          rw [h2] at hk2 ⊢
          clear h2 K2
          go_wp2_with fail
          refine PT.out.mono ?_
          rintro e wp ⟨r, he, hr, hb⟩
          rw [K3.out.1] at he
          rw [K3.out.2] at hr
          obtain rfl : r = s := by rw [str_lit hr, Lib.mk_data]
          subst he
          have BP := Lib.hid (B6.out.trans (hb.mono B6.out.size))
          clear hb hr
          go_wp2_with fail
          refine (LV.out _ BP.out).mono ?_
          rintro e w9 ⟨rfl, hb⟩
          have HB := Lib.hid hb
          clear hb
          go_wp2_with fail
          go_ret
          exact ⟨rfl, HB.out⟩
        · have h2b : ((partsF s.data.toList : Int) == 0) = false := by rw [beq_eq_false_iff_ne]; omega
          clear h2 K2
          go_wp2_with fail
          refine (LV.out _ B6.out).mono ?_
          rintro e w9 ⟨rfl, hb⟩
          have HB := Lib.hid hb
          clear hb
          go_wp2_with fail
          go_ret
          exact ⟨rfl, HB.out⟩
end Go.Proofs.YtlpglabhjbfjgaaDoor
