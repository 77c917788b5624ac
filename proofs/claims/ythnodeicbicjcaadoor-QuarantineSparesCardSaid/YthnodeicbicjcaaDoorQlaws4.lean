/- The walk over the law Spares. -/
import Derived.Test.YthnodeicbicjcaaDoorSpar1
import Derived.Test.YthnodeicbicjcaaDoorQlaws
namespace Go.Proofs.YthnodeicbicjcaaDoor
open Go.RowKit

def SpRel (w1 : World) (rs qs : List Qu) (now : Int) (f : Nat) (tl ti : Value) (wr : World) : Prop :=
  ∃ k : Nat, tl = .bool (spareF rs qs now k) ∧ ti = .int .i64 (k : Nat) ∧ k ≤ rs.length ∧ f = rs.length - k ∧ Below w1.heap.size w1 wr

set_option maxRecDepth 100000 in
set_option maxHeartbeats 1600000 in
theorem spares_law (u v : Value) (rs qs : List Qu) (now m : Int) (w : World) (hrs : QuAt w u rs) (hsz : ∀ q ∈ rs, q.name.size ≤ 9223372036854775807) (h : QuAt w v qs) (hm : w.cell? ⟨0, 0, none⟩ = some (.int .i64 m)) (hg : 0 < w.heap.size) :
    Calls Tryd.prog 8 #[u, v, .int .i64 now] w (LawPost w) := by
  have LV := Lib.hid (lives_at hm hg)
  obtain ⟨uo, ucap, rfl⟩ := hrs.form
  have HU := Lib.hid hrs
  have HV := Lib.hid h
  have HSZ := Lib.hid hsz
  clear hrs h hsz hm
  go_enter Tryd.func8, Tryd.ntmps8
  by_cases hbig : 60 < rs.length
  · have hb1 : (60 : Int) < (rs.length : Int) := by omega
    clear hbig
    go_wp2_with fail
    refine (LV.out _ (Below.refl _ _)).mono ?_
    rintro e w9 ⟨rfl, hb⟩
    have HB := Lib.hid hb
    clear hb
    go_wp2_with fail
    go_ret
    exact ⟨rfl, HB.out⟩
  · have hb1 : decide ((60 : Int) < (rs.length : Int)) = false := by simp; omega
    have hrl : rs.length ≤ 60 := by omega
    clear hbig
    go_wp2_with fail
    refine (few_any v qs w HV.out).mono ?_
    rintro e w1 ⟨rfl, rfl⟩
    cases hf : fewF qs with
    | false =>
      clear hf
      go_wp2_with fail
      refine (LV.out _ (Below.refl _ _)).mono ?_
      rintro e w9 ⟨rfl, hb⟩
      have HB := Lib.hid hb
      clear hb
      go_wp2_with fail
      go_ret
      exact ⟨rfl, HB.out⟩
    | true =>
      have hl := fewF_len hf
      clear hf
      go_wp2_with fail
      go_loopg [7, 8] rs.length (SpRel w1 rs qs now)
      case atStart => exact ⟨0, by rfl, rfl, Nat.zero_le _, rfl, Below.refl _ _⟩
      case round =>
        obtain ⟨k, rfl, rfl, hk, rfl, hbel⟩ := hrel
        have HB := Lib.hid hbel
        clear hbel
        by_cases hlt : k < rs.length
        · obtain ⟨b, off, rfl, hbl, c0, c1, c2⟩ := QuAt.at3 (SlAt.below HU.out HB.out) hlt
          have hii : (k : Int) < (rs.length : Int) := by omega
          have HS := Lib.hid (spareF_succ (qs := qs) (now := now) hlt)
          generalize rs[k] = r at *
          cases hsp : spareF rs qs now k with
          | true =>
            have HF : Hid (spareF rs qs now (k + 1) = true) := by unfold Hid; rw [HS.out, hsp]; rfl
            clear hsp HS
            as_aux_lemma =>
            go_wp2_with fail
            go_roundg (rs.length - (k + 1))
            case measure => omega
            case rel => exact ⟨k + 1, by rw [HF.out], by go_num, by omega, rfl, HB.out⟩
          | false =>
            rw [hsp, Bool.false_or] at HS
            clear hsp
            by_cases h2 : r.since = 2
            · have t2 : (r.since == 2) = true := by simp [h2]
              rw [decide_eq_true h2, Bool.true_and] at HS
              clear h2
              go_wp2_with fail
              refine (active_any v qs (by omega) r.name now _ (SlAt.below HV.out HB.out)).mono ?_
              rintro e w2 ⟨rfl, hb⟩
              have HB2 := Lib.hid (HB.out.trans (hb.mono HB.out.size))
              clear hb
              cases ha : qs.any (actF r.name now) with
              | true =>
                have HF : Hid (spareF rs qs now (k + 1) = false) := by unfold Hid; rw [HS.out, ha]; rfl
                clear ha HS
                as_aux_lemma =>
                go_wp2_with fail
                go_roundg (rs.length - (k + 1))
                case measure => omega
                case rel => exact ⟨k + 1, by rw [HF.out], by go_num, by omega, rfl, HB2.out⟩
              | false =>
                have HF : Hid (spareF rs qs now (k + 1) = true) := by unfold Hid; rw [HS.out, ha]; rfl
                clear ha HS
                as_aux_lemma =>
                go_wp2_with fail
                go_roundg (rs.length - (k + 1))
                case measure => omega
                case rel => exact ⟨k + 1, by rw [HF.out], by go_num, by omega, rfl, HB2.out⟩
            · have t2 : (r.since == 2) = false := by rw [beq_eq_false_iff_ne]; exact h2
              have HF : Hid (spareF rs qs now (k + 1) = false) := by unfold Hid; rw [HS.out, decide_eq_false h2]; rfl
              clear h2 HS
              as_aux_lemma =>
              go_wp2_with fail
              go_roundg (rs.length - (k + 1))
              case measure => omega
              case rel => exact ⟨k + 1, by rw [HF.out], by go_num, by omega, rfl, HB.out⟩
        · have he : k = rs.length := by omega
          subst he
          have hii : ¬ (rs.length : Int) < (rs.length : Int) := by omega
          have HFP := Lib.hid (fail_pos rs qs now)
          have APL := Lib.hid (apply_any (.slice uo rs.length ucap) v rs qs (by omega) (by omega) now wr (SlAt.below HU.out HB.out) (SlAt.below HV.out HB.out))
          have HNS : Hid (∀ q ∈ rs.map (apF qs now), q.name.size ≤ 9223372036854775807) := by
            intro q hq
            obtain ⟨r, hr, rfl⟩ := List.mem_map.1 hq
            have : (apF qs now r).name = r.name := by unfold apF; split <;> rfl
            rw [this]
            exact HSZ.out r hr
          have hml : (rs.map (apF qs now)).length ≤ 1000 := by rw [List.length_map]; omega
          go_wp2_with fail
          refine APL.out.mono ?_
          rintro e w2 ⟨v2, rfl, hrow, hb⟩
          have HB2 := Lib.hid (HB.out.trans (hb.mono HB.out.size))
          have ST := Lib.hid (status_any v2 (rs.map (apF qs now)) hml HNS.out w2 (SlAt.of_row hrow Qu.cells_len (by decide)))
          clear hrow hb APL
          cases hs : spareF rs qs now rs.length with
          | true =>
            have HP : Hid (0 < (failN (rs.map (apF qs now))).length) := Lib.hid (of_decide_eq_true (HFP.out.trans hs))
            rw [show statF (rs.map (apF qs now)) = 2 from if_pos HP.out] at ST
            clear hs
            go_wp2_with fail
            refine ST.out.mono ?_
            rintro e w3 ⟨rfl, hb⟩
            have HB3 := Lib.hid (HB2.out.trans (hb.mono HB2.out.size))
            clear hb
            go_wp2_with fail
            refine (LV.out _ HB3.out).mono ?_
            rintro e w9 ⟨rfl, hb⟩
            have HBE := Lib.hid hb
            clear hb
            go_wp2_with fail
            go_ret
            exact ⟨rfl, HBE.out⟩
          | false =>
            have HP : Hid (¬ 0 < (failN (rs.map (apF qs now))).length) := Lib.hid (of_decide_eq_false (HFP.out.trans hs))
            rw [show statF (rs.map (apF qs now)) = 1 from if_neg HP.out] at ST
            clear hs
            go_wp2_with fail
            refine ST.out.mono ?_
            rintro e w3 ⟨rfl, hb⟩
            have HB3 := Lib.hid (HB2.out.trans (hb.mono HB2.out.size))
            clear hb
            go_wp2_with fail
            refine (LV.out _ HB3.out).mono ?_
            rintro e w9 ⟨rfl, hb⟩
            have HBE := Lib.hid hb
            clear hb
            go_wp2_with fail
            go_ret
            exact ⟨rfl, HBE.out⟩
end Go.Proofs.YthnodeicbicjcaaDoor
