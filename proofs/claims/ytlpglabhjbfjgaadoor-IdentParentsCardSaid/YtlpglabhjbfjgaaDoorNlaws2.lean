/- The walks over the laws Joins and Parents. -/
import Derived.Test.YtlpglabhjbfjgaaDoorNw7
import Derived.Test.YtlpglabhjbfjgaaDoorNlaws1
namespace Go.Proofs.YtlpglabhjbfjgaaDoor
open Go.RowKit

theorem pathS_pos {L : List Bs} (h : pathN L = 0) : pathS L ≠ [] := by
  obtain ⟨h1, h2, _⟩ := pathN_zero h
  unfold pathS
  rw [if_pos h]
  intro e
  have hp := pcs_path h
  rw [e] at hp
  have : ([] : Bs) ∈ L := by rw [← hp]; simp [pcs]
  have := List.all_eq_true.1 h2 _ this
  revert this
  decide

set_option maxRecDepth 100000 in
set_option maxHeartbeats 3200000 in
theorem joins_law (u v : Value) (xs ys : List ByteArray) (m : Int) (w : World) (_hx : ∀ s ∈ xs, s.size ≤ 9223372036854775807) (hu : StrsAt w u xs) (_hy : ∀ s ∈ ys, s.size ≤ 9223372036854775807) (hv : StrsAt w v ys) (hm : w.cell? ⟨0, 0, none⟩ = some (.int .i64 m)) (hg : 0 < w.heap.size) : Calls Tryd.prog 5 #[u, v] w (LawPost w) := by
  have LV := Lib.hid (lives_at hm hg)
  clear hm hg
  have B0 := Lib.hid (Below.refl w.heap.size w)
  have HU := Lib.hid hu
  have HV := Lib.hid hv
  clear hu hv
  go_enter Tryd.func5, Tryd.ntmps5
  go_wp2_with fail
  refine (few_any u xs 100 (by decide) w HU.out).mono ?_
  rintro e w1 ⟨rfl, rfl⟩
  cases hf : fewF xs 100 with
  | false =>
    clear hf
    go_wp2_with fail
    refine (LV.out _ B0.out).mono ?_
    rintro e w9 ⟨rfl, hb⟩
    have HB := Lib.hid hb
    clear hb
    go_wp2_with fail
    go_ret
    exact ⟨rfl, HB.out⟩
  | true =>
    have hx1 := (fewF_true.1 hf).1
    clear hf
    go_wp2_with fail
    refine (few_any v ys 100 (by decide) w1 HV.out).mono ?_
    rintro e w2 ⟨rfl, rfl⟩
    cases hf : fewF ys 100 with
    | false =>
      clear hf
      go_wp2_with fail
      refine (LV.out _ B0.out).mono ?_
      rintro e w9 ⟨rfl, hb⟩
      have HB := Lib.hid hb
      clear hb
      go_wp2_with fail
      go_ret
      exact ⟨rfl, HB.out⟩
    | true =>
      have hy1 := (fewF_true.1 hf).1
      clear hf
      go_wp2_with fail
      refine (path_any u xs (by omega) w2 HU.out).mono ?_
      rintro e w3 ⟨p, rfl, hp, hb⟩
      have B3 := Lib.hid hb
      have HP := Lib.hid hp
      clear hb hp
      go_wp2_with fail
      refine (path_any v ys (by omega) w3 (HV.out.below B3.out)).mono ?_
      rintro e w4 ⟨q, rfl, hq, hb⟩
      have B4 := Lib.hid (B3.out.trans (hb.mono B3.out.size))
      have HQ := Lib.hid hq
      clear hb hq
      by_cases h1 : pathN (datas xs) = 0
      · by_cases h2 : pathN (datas ys) = 0
        · have SM := Lib.hid (same_any u v xs ys (by omega) w4 (HU.out.below B4.out) (HV.out.below B4.out))
          have hpq : (p.toList == q.toList) = decide (xs = ys) := by
            rw [tl_eq, decide_eq_decide]
            constructor
            · intro e
              have e2 : pathS (datas xs) = pathS (datas ys) := by rw [← HP.out, ← HQ.out, e]
              unfold pathS at e2
              rw [if_pos h1, if_pos h2] at e2
              exact datas_inj _ _ (path_inj h1 h2 e2)
            · intro e
              rw [str_lit HP.out, str_lit HQ.out, e]
          rw [h1, h2]
          generalize decide (xs = ys) = t at *
          clear h1 h2
          cases t with
          | true =>
            go_wp2_with fail
            refine SM.out.mono ?_
            rintro e w5 ⟨rfl, hb⟩
            have B5 := Lib.hid (B4.out.trans (hb.mono B4.out.size))
            clear hb
            go_wp2_with fail
            refine (LV.out _ B5.out).mono ?_
            rintro e w9 ⟨rfl, hb⟩
            have HB := Lib.hid hb
            clear hb
            go_wp2_with fail
            go_ret
            exact ⟨rfl, HB.out⟩
          | false =>
            go_wp2_with fail
            refine SM.out.mono ?_
            rintro e w5 ⟨rfl, hb⟩
            have B5 := Lib.hid (B4.out.trans (hb.mono B4.out.size))
            clear hb
            go_wp2_with fail
            refine (LV.out _ B5.out).mono ?_
            rintro e w9 ⟨rfl, hb⟩
            have HB := Lib.hid hb
            clear hb
            go_wp2_with fail
            go_ret
            exact ⟨rfl, HB.out⟩
        · have hqe : q = ⟨#[]⟩ := by
            have := HQ.out
            unfold pathS at this
            rw [if_neg h2] at this
            exact str_lit this
          subst hqe
          have hpe : p.toList.isEmpty = false := by
            refine (ne_size ?_).1
            rw [HP.out]
            exact pathS_pos h1
          rw [h1]
          have h2b : ((pathN (datas ys) : Int) != 0) = true := by rw [bne_iff_ne]; omega
          clear h1 h2
          generalize pathN (datas ys) = k2 at *
          go_wp2_with fail
          refine (LV.out _ B4.out).mono ?_
          rintro e w9 ⟨rfl, hb⟩
          have HB := Lib.hid hb
          clear hb
          go_wp2_with fail
          go_ret
          exact ⟨rfl, HB.out⟩
      · have hpe : p = ⟨#[]⟩ := by
          have := HP.out
          unfold pathS at this
          rw [if_neg h1] at this
          exact str_lit this
        subst hpe
        have h1b : ((pathN (datas xs) : Int) != 0) = true := by rw [bne_iff_ne]; omega
        clear h1
        generalize pathN (datas xs) = k1 at *
        generalize pathN (datas ys) = k2 at *
        go_wp2_with fail
        refine (LV.out _ B4.out).mono ?_
        rintro e w9 ⟨rfl, hb⟩
        have HB := Lib.hid hb
        clear hb
        go_wp2_with fail
        go_ret
        exact ⟨rfl, HB.out⟩

set_option maxRecDepth 100000 in
set_option maxHeartbeats 3200000 in
theorem parents_law (s d : ByteArray) (m : Int) (w : World) (hm : w.cell? ⟨0, 0, none⟩ = some (.int .i64 m)) (hg : 0 < w.heap.size) : Calls Tryd.prog 6 #[.string s, .string d] w (LawPost w) := by
  have LV := Lib.hid (lives_at hm hg)
  have MX : Hid (∀ W, Below w.heap.size w W → W.cell? ⟨0, 0, none⟩ = some (.int .i64 m) ∧ 0 < W.heap.size) := fun W hW => ⟨(hW.cell (p := ⟨0, 0, none⟩) hg).trans hm, Nat.lt_of_lt_of_le hg hW.size⟩
  clear hm hg
  have B0 := Lib.hid (Below.refl w.heap.size w)
  go_enter Tryd.func6, Tryd.ntmps6
  by_cases ha : 1000 < s.size
  · have hb1 : (1000 : Int) < (s.size : Int) := by omega
    go_wp2_with fail
    refine (LV.out _ B0.out).mono ?_
    rintro e w9 ⟨rfl, hb⟩
    have HB := Lib.hid hb
    clear hb
    go_wp2_with fail
    go_ret
    exact ⟨rfl, HB.out⟩
  · have hb1 : decide ((1000 : Int) < (s.size : Int)) = false := by simp; omega
    by_cases hb : 1000 < d.size
    · have hb2 : (1000 : Int) < (d.size : Int) := by omega
      go_wp2_with fail
      refine (LV.out _ B0.out).mono ?_
      rintro e w9 ⟨rfl, hb⟩
      have HB := Lib.hid hb
      clear hb
      go_wp2_with fail
      go_ret
      exact ⟨rfl, HB.out⟩
    · have hb2 : decide ((1000 : Int) < (d.size : Int)) = false := by simp; omega
      clear ha hb
      have PW := Lib.hid (fun h => par_within (l := s.data.toList) h)
      go_wp2_with fail
      refine (parent_any s m w (MX.out _ B0.out).1).mono ?_
      rintro e w1 ⟨p, rfl, hp, hb⟩
      have B1 := Lib.hid hb
      have HP := Lib.hid hp
      clear hb hp
      go_wp2_with fail
      refine (rparent_any s w1).mono ?_
      rintro e w2 ⟨q, rfl, hq, hb⟩
      obtain rfl : q = p := by rw [str_lit hq, str_lit HP.out]
      have B2 := Lib.hid (B1.out.trans (hb.mono B1.out.size))
      clear hb hq
      rw [← HP.out] at PW
      have hss : (q.toList == q.toList) = true := beq_self_eq_true _
      have hsn : (!q.toList == q.toList) = false := by rw [hss]; rfl
      have WI := Lib.hid (within_any s d m w2 (MX.out _ B2.out).1 (MX.out _ B2.out).2)
      have RW := Lib.hid (fun W => rwithin_any s d W)
      generalize withF s.data.toList d.data.toList = t at *
      cases hh : hasP s.data.toList with
      | true =>
        have PW2 := Lib.hid (PW.out hh)
        clear hh PW
        cases t with
        | true =>
          go_wp2_with fail
          refine WI.out.mono ?_
          rintro e w3 ⟨rfl, hb⟩
          have B3 := Lib.hid (B2.out.trans (hb.mono B2.out.size))
          clear hb
          go_wp2_with fail
          refine (RW.out w3).mono ?_
          rintro e w4 ⟨rfl, hb⟩
          have B4 := Lib.hid (B3.out.trans (hb.mono B3.out.size))
          clear hb
          go_wp2_with fail
          refine (within_any s q m w4 (MX.out _ B4.out).1 (MX.out _ B4.out).2).mono ?_
          rintro e w5 ⟨he, hb⟩
          rw [PW2.out.1] at he
          subst he
          have B5 := Lib.hid (B4.out.trans (hb.mono B4.out.size))
          clear hb
          go_wp2_with fail
          refine (within_any q s m w5 (MX.out _ B5.out).1 (MX.out _ B5.out).2).mono ?_
          rintro e w6 ⟨he, hb⟩
          rw [PW2.out.2] at he
          subst he
          have B6 := Lib.hid (B5.out.trans (hb.mono B5.out.size))
          clear hb
          go_wp2_with fail
          refine (LV.out _ B6.out).mono ?_
          rintro e w9 ⟨rfl, hb⟩
          have HB := Lib.hid hb
          clear hb
          go_wp2_with fail
          go_ret
          exact ⟨rfl, HB.out⟩
        | false =>
          go_wp2_with fail
          refine WI.out.mono ?_
          rintro e w3 ⟨rfl, hb⟩
          have B3 := Lib.hid (B2.out.trans (hb.mono B2.out.size))
          clear hb
          go_wp2_with fail
          refine (RW.out w3).mono ?_
          rintro e w4 ⟨rfl, hb⟩
          have B4 := Lib.hid (B3.out.trans (hb.mono B3.out.size))
          clear hb
          go_wp2_with fail
          refine (within_any s q m w4 (MX.out _ B4.out).1 (MX.out _ B4.out).2).mono ?_
          rintro e w5 ⟨he, hb⟩
          rw [PW2.out.1] at he
          subst he
          have B5 := Lib.hid (B4.out.trans (hb.mono B4.out.size))
          clear hb
          go_wp2_with fail
          refine (within_any q s m w5 (MX.out _ B5.out).1 (MX.out _ B5.out).2).mono ?_
          rintro e w6 ⟨he, hb⟩
          rw [PW2.out.2] at he
          subst he
          have B6 := Lib.hid (B5.out.trans (hb.mono B5.out.size))
          clear hb
          go_wp2_with fail
          refine (LV.out _ B6.out).mono ?_
          rintro e w9 ⟨rfl, hb⟩
          have HB := Lib.hid hb
          clear hb
          go_wp2_with fail
          go_ret
          exact ⟨rfl, HB.out⟩
      | false =>
        clear hh PW
        cases t with
        | true =>
          go_wp2_with fail
          refine WI.out.mono ?_
          rintro e w3 ⟨rfl, hb⟩
          have B3 := Lib.hid (B2.out.trans (hb.mono B2.out.size))
          clear hb
          go_wp2_with fail
          refine (RW.out w3).mono ?_
          rintro e w4 ⟨rfl, hb⟩
          have B4 := Lib.hid (B3.out.trans (hb.mono B3.out.size))
          clear hb
          go_wp2_with fail
          refine (LV.out _ B4.out).mono ?_
          rintro e w9 ⟨rfl, hb⟩
          have HB := Lib.hid hb
          clear hb
          go_wp2_with fail
          go_ret
          exact ⟨rfl, HB.out⟩
        | false =>
          go_wp2_with fail
          refine WI.out.mono ?_
          rintro e w3 ⟨rfl, hb⟩
          have B3 := Lib.hid (B2.out.trans (hb.mono B2.out.size))
          clear hb
          go_wp2_with fail
          refine (RW.out w3).mono ?_
          rintro e w4 ⟨rfl, hb⟩
          have B4 := Lib.hid (B3.out.trans (hb.mono B3.out.size))
          clear hb
          go_wp2_with fail
          refine (LV.out _ B4.out).mono ?_
          rintro e w9 ⟨rfl, hb⟩
          have HB := Lib.hid hb
          clear hb
          go_wp2_with fail
          go_ret
          exact ⟨rfl, HB.out⟩
end Go.Proofs.YtlpglabhjbfjgaaDoor
