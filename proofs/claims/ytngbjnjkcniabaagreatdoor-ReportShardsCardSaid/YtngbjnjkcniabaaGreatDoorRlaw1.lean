/- The walk over the law ReportStatuses. -/
import Derived.Test.YtngbjnjkcniabaaGreatDoorRlives
namespace Go.Proofs.YtngbjnjkcniabaaGreatDoor
open Go.RowKit

theorem fewF_all {rs : List Qu} (h : fewF rs = true) : rs.length ≤ 60 ∧ ∀ q ∈ rs, q.name.size ≤ 1000 := by
  unfold fewF at h
  rw [Bool.and_eq_true] at h
  refine ⟨of_decide_eq_true h.1, fun q hq => ?_⟩
  have h2 := h.2
  unfold fewTo at h2
  rw [List.take_length, List.all_eq_true] at h2
  exact of_decide_eq_true (h2 q hq)
theorem lives_at {w : World} (h : Base36 w) : ∀ W, Below w.heap.size w W → Calls Tryz.prog 9 #[] W fun e w' => e = .returned (.bool true) ∧ Below w.heap.size w w' := fun W hW =>
  (lives_any W (h.below hW)).mono fun _ _ hh => ⟨hh.1, hW.trans (hh.2.mono hW.size)⟩

set_option maxRecDepth 100000 in
set_option maxHeartbeats 1600000 in
theorem statuses_law (v : Value) (rs : List Qu) (w : World) (h : QuAt w v rs) (hsz : ∀ q ∈ rs, q.name.size ≤ 9223372036854775807) (hB : Base36 w) :
    Calls Tryz.prog 5 #[v] w (LawPost w) := by
  have LV := Lib.hid (lives_at hB)
  have H := Lib.hid h
  have HSZ := Lib.hid hsz
  clear h hsz hB
  go_enter Tryz.func5, Tryz.ntmps5
  go_wp2_with fail
  refine (few_any v rs w H.out).mono ?_
  rintro e w1 ⟨rfl, rfl⟩
  cases hf : fewF rs with
  | false =>
    clear hf
    go_wp2_with fail
    refine (LV.out _ (Below.refl _ _)).mono ?_
    rintro e w9 ⟨rfl, hb⟩
    have HB := Lib.hid hb
    clear hb
    go_wp2_with fail
    go_ret
    exact ⟨rfl, HB.out⟩
  | true =>
    have hl : rs.length ≤ 1000 := Nat.le_trans (fewF_all hf).1 (by decide)
    clear hf
    go_wp2_with fail
    refine (status_any v rs hl HSZ.out _ H.out).mono ?_
    rintro e w2 ⟨rfl, hb⟩
    have HB2 := Lib.hid hb
    clear hb
    have H2 := Lib.hid (SlAt.below H.out HB2.out)
    go_wp2_with fail
    refine (rstatus_any v rs hl HSZ.out w2 H2.out).mono ?_
    rintro e w3 ⟨rfl, hb⟩
    have HB3 := Lib.hid (HB2.out.trans (hb.mono HB2.out.size))
    clear hb
    have H3 := Lib.hid (SlAt.below H.out HB3.out)
    generalize statF rs = st at *
    go_wp2_with fail
    refine (failed_any v rs hl HSZ.out w3 H3.out).mono ?_
    rintro e w4 ⟨f1, ss1, rfl, ha1, hs1, hb⟩
    have HB4 := Lib.hid (HB3.out.trans (hb.mono HB3.out.size))
    have HA1 := Lib.hid ha1
    have HS1 := Lib.hid hs1
    clear hb ha1 hs1
    have H4 := Lib.hid (SlAt.below H.out HB4.out)
    go_wp2_with fail
    refine (rfailed_any v rs hl HSZ.out w4 H4.out).mono ?_
    rintro e w5 ⟨f2, ss2, rfl, ha2, hs2, hb⟩
    have HB5 := Lib.hid (HB4.out.trans (hb.mono HB4.out.size))
    have HA2 := Lib.hid ha2
    have HA15 := Lib.hid (HA1.out.below hb)
    have HS : Hid (dts ss1 = dts ss2) := HS1.out.trans hs2.symm
    have hln : ss1.length ≤ 1000000 := by
      have := congrArg List.length HS1.out
      rw [List.length_map] at this
      rw [this]
      refine Nat.le_trans (sortTo_len _ _) ?_
      rw [List.length_map]
      unfold failN
      rw [List.length_map]
      exact Nat.le_trans (List.length_filter_le _ _) (by omega)
    clear hb ha2 hs2
    go_wp2_with fail
    refine (rsame_any f1 f2 ss1 ss2 hln w5 HA15.out HA2.out).mono ?_
    rw [decide_eq_true HS.out]
    rintro e w6 ⟨rfl, hb⟩
    have HB6 := Lib.hid (HB5.out.trans (hb.mono HB5.out.size))
    clear hb hln
    go_wp2_with fail
    refine (LV.out _ HB6.out).mono ?_
    rintro e w9 ⟨rfl, hb⟩
    have HB := Lib.hid hb
    clear hb
    go_wp2_with fail
    go_ret
    exact ⟨rfl, HB.out⟩
end Go.Proofs.YtngbjnjkcniabaaGreatDoor
