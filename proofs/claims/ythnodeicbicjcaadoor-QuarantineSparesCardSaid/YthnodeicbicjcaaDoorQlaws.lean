/- The walks over the laws Active, Adds, Applies, Updates. -/
import Derived.Test.YthnodeicbicjcaaDoorQlives
namespace Go.Proofs.YthnodeicbicjcaaDoor
open Go.RowKit

/-- a law's end: it returns true, and what was there before stands -/
abbrev LawPost (w : World) (e : Ending) (w' : World) : Prop := e = .returned (.bool true) ∧ Below w.heap.size w w'

theorem lives_at {m : Int} {w : World} (hm : w.cell? ⟨0, 0, none⟩ = some (.int .i64 m)) (hg : 0 < w.heap.size) (v : World) (hb : Below w.heap.size w v) :
    Calls Tryd.prog 10 #[] v fun e w' => e = .returned (.bool true) ∧ Below w.heap.size w w' :=
  (lives_any m v ((hb.cell (p := ⟨0, 0, none⟩) hg).trans hm) (Nat.lt_of_lt_of_le hg hb.size)).mono fun _ _ h => ⟨h.1, hb.trans (h.2.mono hb.size)⟩

theorem fewF_len {qs : List Qu} (h : fewF qs = true) : qs.length ≤ 60 := by
  unfold fewF at h
  rw [Bool.and_eq_true, decide_eq_true_eq] at h
  exact h.1

set_option maxRecDepth 100000 in
set_option maxHeartbeats 1600000 in
theorem active_law (v : Value) (qs : List Qu) (name : ByteArray) (now m : Int) (w : World) (h : QuAt w v qs) (hm : w.cell? ⟨0, 0, none⟩ = some (.int .i64 m)) (hg : 0 < w.heap.size) :
    Calls Tryd.prog 4 #[v, .string name, .int .i64 now] w (LawPost w) := by
  have LV := Lib.hid (lives_at hm hg)
  have H := Lib.hid h
  clear h hm
  go_enter Tryd.func4, Tryd.ntmps4
  go_wp2_with fail
  refine (few_any v qs w H.out).mono ?_
  rintro e w1 ⟨rfl, rfl⟩
  cases hf : fewF qs with
  | false =>
    clear hf
    go_wp2_with fail
    refine (LV.out _ (Below.refl _ _)).mono ?_
    rintro e w9 ⟨rfl, hb⟩
    have HB := Lib.hid hb
    clear hb
    go_wp2_with fail
    go_ret
    exact ⟨rfl, HB.out⟩
  | true =>
    have hl := fewF_len hf
    clear hf
    by_cases hs : 1000 < name.size
    · have hsi : (1000 : Int) < (name.size : Int) := by omega
      go_wp2_with fail
      refine (LV.out _ (Below.refl _ _)).mono ?_
      rintro e w9 ⟨rfl, hb⟩
      have HB := Lib.hid hb
      clear hb
      go_wp2_with fail
      go_ret
      exact ⟨rfl, HB.out⟩
    · have hsi : decide ((1000 : Int) < (name.size : Int)) = false := by simp; omega
      go_wp2_with fail
      refine (active_any v qs (by omega) name now w1 H.out).mono ?_
      rintro e w2 ⟨rfl, hb⟩
      have HB2 := Lib.hid hb
      have H2 := Lib.hid (SlAt.below H.out hb)
      clear hb
      generalize hbb : qs.any (actF name now) = b
      have HBB := Lib.hid hbb
      have hself : (b == b) = true := by cases b <;> rfl
      clear hbb
      go_wp2_with fail
      refine (ractive_any v qs (by omega) name now w2 H2.out).mono ?_
      rintro e w3 ⟨rfl, hb⟩
      rw [HBB.out]
      have HB3 := Lib.hid (HB2.out.trans (hb.mono HB2.out.size))
      have H3 := Lib.hid (SlAt.below H2.out hb)
      clear hb
      go_wp2_with fail
      refine (expire_any now v qs (by omega) w3 H3.out).mono ?_
      rintro e w4 ⟨v1, rfl, hrow, hb⟩
      have HE1 := Lib.hid (QuRow.at hrow)
      have HB4 := Lib.hid (HB3.out.trans (hb.mono HB3.out.size))
      have H4 := Lib.hid (SlAt.below H3.out hb)
      clear hrow hb
      go_wp2_with fail
      refine (rexpire_any now v qs (by omega) w4 H4.out).mono ?_
      rintro e w5 ⟨v2, rfl, hrow, hb⟩
      have HE2 := Lib.hid (QuRow.at hrow)
      have HE1 := Lib.hid (SlAt.below HE1.out hb)
      have HB5 := Lib.hid (HB4.out.trans (hb.mono HB4.out.size))
      have hfl : (qs.filter fun q => decide (now < q.til)).length ≤ qs.length := List.length_filter_le _ _
      clear hrow hb
      go_wp2_with fail
      refine (same_any v1 v2 _ (by omega) w5 HE1.out HE2.out).mono ?_
      rintro e w6 ⟨rfl, hb⟩
      have HB6 := Lib.hid (HB5.out.trans (hb.mono HB5.out.size))
      clear hb
      go_wp2_with fail
      refine (LV.out _ HB6.out).mono ?_
      rintro e w9 ⟨rfl, hb⟩
      have HB := Lib.hid hb
      clear hb
      go_wp2_with fail
      go_ret
      exact ⟨rfl, HB.out⟩

set_option maxRecDepth 100000 in
set_option maxHeartbeats 1600000 in
theorem adds_law (v : Value) (qs : List Qu) (name : ByteArray) (now len m : Int) (w : World) (h : QuAt w v qs) (hm : w.cell? ⟨0, 0, none⟩ = some (.int .i64 m)) (hg : 0 < w.heap.size) :
    Calls Tryd.prog 3 #[v, .string name, .agg #[.int .i64 now, .int .i64 len]] w (LawPost w) := by
  have LV := Lib.hid (lives_at hm hg)
  have H := Lib.hid h
  have HM := Lib.hid hm
  clear h hm
  have HB0 := Lib.hid ((Below.refl w.heap.size w).alloc (Nat.le_refl _) (.cells #[.int .i64 now, .int .i64 len] 23))
  have HK0 : Hid ((w.alloc (.cells #[.int .i64 now, .int .i64 len] 23)).heap[w.heap.size]? = some (.cells #[.int .i64 now, .int .i64 len] 23)) := hp_new rfl
  have hk0 : (w.alloc (.cells #[.int .i64 now, .int .i64 len] 23)).cell? ⟨w.heap.size, 0, none⟩ = some (.int .i64 now) := by rw [cell_of_blk HK0.out]; rfl
  have hk1 : (w.alloc (.cells #[.int .i64 now, .int .i64 len] 23)).cell? ⟨w.heap.size, 1, none⟩ = some (.int .i64 len) := by rw [cell_of_blk HK0.out]; rfl
  go_enter Tryd.func3, Tryd.ntmps3
  go_wp2_with fail
  generalize w.alloc (.cells #[.int .i64 now, .int .i64 len] 23) = w0 at *
  refine (few_any v qs w0 (SlAt.below H.out HB0.out)).mono ?_
  rintro e w1 ⟨rfl, rfl⟩
  cases hf : fewF qs with
  | false =>
    clear hf
    go_wp2_with fail
    refine (LV.out _ HB0.out).mono ?_
    rintro e w9 ⟨rfl, hb⟩
    have HB := Lib.hid hb
    clear hb
    go_wp2_with fail
    go_ret
    exact ⟨rfl, HB.out⟩
  | true =>
    have hl := fewF_len hf
    clear hf
    by_cases hs : 1000 < name.size
    · have hsi : (1000 : Int) < (name.size : Int) := by omega
      go_wp2_with fail
      refine (LV.out _ HB0.out).mono ?_
      rintro e w9 ⟨rfl, hb⟩
      have HB := Lib.hid hb
      clear hb
      go_wp2_with fail
      go_ret
      exact ⟨rfl, HB.out⟩
    · have hsi : decide ((1000 : Int) < (name.size : Int)) = false := by simp; omega
      go_wp2_with fail
      refine (add_any v qs (by omega) name now len m w1 (SlAt.below H.out HB0.out) ((HB0.out.cell (p := ⟨0, 0, none⟩) hg).trans HM.out) (Nat.lt_of_lt_of_le hg HB0.out.size)).mono ?_
      rintro e w2 ⟨v1, rfl, hq, hb⟩
      have HQ1 := Lib.hid hq
      have HB2 := Lib.hid (HB0.out.trans (hb.mono HB0.out.size))
      have hkb : w2.heap[w.heap.size]? = some (.cells #[.int .i64 now, .int .i64 len] 23) := (hb.block _ (Array.getElem?_eq_some_iff.1 HK0.out).1).trans HK0.out
      have k0 : w2.cell? ⟨w.heap.size, 0, none⟩ = some (.int .i64 now) := by rw [cell_of_blk hkb]; rfl
      have k1 : w2.cell? ⟨w.heap.size, 1, none⟩ = some (.int .i64 len) := by rw [cell_of_blk hkb]; rfl
      clear hq hb hkb
      go_wp2_with fail
      refine (radd_any v qs (by omega) name now len w2 (SlAt.below H.out HB2.out)).mono ?_
      rintro e w3 ⟨v2, rfl, hq, hb⟩
      have HQ2 := Lib.hid hq
      have HQ1 := Lib.hid (SlAt.below HQ1.out hb)
      have HB3 := Lib.hid (HB2.out.trans (hb.mono HB2.out.size))
      have hal := addF_len qs name now len
      clear hq hb
      generalize addF qs name now len = x at *
      go_wp2_with fail
      refine (same_any v1 v2 _ (by omega) w3 HQ1.out HQ2.out).mono ?_
      rintro e w4 ⟨rfl, hb⟩
      have HB4 := Lib.hid (HB3.out.trans (hb.mono HB3.out.size))
      clear hb
      go_wp2_with fail
      refine (LV.out _ HB4.out).mono ?_
      rintro e w9 ⟨rfl, hb⟩
      have HB := Lib.hid hb
      clear hb
      go_wp2_with fail
      go_ret
      exact ⟨rfl, HB.out⟩

set_option maxRecDepth 100000 in
set_option maxHeartbeats 1600000 in
theorem applies_law (v u : Value) (rs qs : List Qu) (now m : Int) (w : World) (h : QuAt w v rs) (h2 : QuAt w u qs) (hm : w.cell? ⟨0, 0, none⟩ = some (.int .i64 m)) (hg : 0 < w.heap.size) :
    Calls Tryd.prog 5 #[v, u, .int .i64 now] w (LawPost w) := by
  have LV := Lib.hid (lives_at hm hg)
  obtain ⟨vo, vcap, rfl⟩ := h.form
  have H := Lib.hid h
  have H2 := Lib.hid h2
  clear h h2 hm
  go_enter Tryd.func5, Tryd.ntmps5
  by_cases hr : 60 < rs.length
  · have hri : (60 : Int) < (rs.length : Int) := by omega
    go_wp2_with fail
    refine (LV.out _ (Below.refl _ _)).mono ?_
    rintro e w9 ⟨rfl, hb⟩
    have HB := Lib.hid hb
    clear hb
    go_wp2_with fail
    go_ret
    exact ⟨rfl, HB.out⟩
  · have hri : decide ((60 : Int) < (rs.length : Int)) = false := by simp; omega
    go_wp2_with fail
    refine (few_any u qs w H2.out).mono ?_
    rintro e w1 ⟨rfl, rfl⟩
    cases hf : fewF qs with
    | false =>
      clear hf
      go_wp2_with fail
      refine (LV.out _ (Below.refl _ _)).mono ?_
      rintro e w9 ⟨rfl, hb⟩
      have HB := Lib.hid hb
      clear hb
      go_wp2_with fail
      go_ret
      exact ⟨rfl, HB.out⟩
    | true =>
      have hl := fewF_len hf
      clear hf
      go_wp2_with fail
      refine (apply_any _ u rs qs (by omega) (by omega) now w1 H.out H2.out).mono ?_
      rintro e w2 ⟨v1, rfl, hrow, hb⟩
      have HQ1 := Lib.hid (TrRow.at hrow)
      have HB2 := Lib.hid hb
      clear hrow hb
      go_wp2_with fail
      refine (rapply_any _ u rs qs (by omega) (by omega) now w2 (SlAt.below H.out HB2.out) (SlAt.below H2.out HB2.out)).mono ?_
      rintro e w3 ⟨v2, rfl, hrow, hb⟩
      have HQ2 := Lib.hid (TrRow.at hrow)
      have HQ1 := Lib.hid (SlAt.below HQ1.out hb)
      have HB3 := Lib.hid (HB2.out.trans (hb.mono HB2.out.size))
      clear hrow hb
      go_wp2_with fail
      refine (samet_any v1 v2 _ (by simp; omega) w3 HQ1.out HQ2.out).mono ?_
      rintro e w4 ⟨rfl, hb⟩
      have HB4 := Lib.hid (HB3.out.trans (hb.mono HB3.out.size))
      clear hb
      go_wp2_with fail
      refine (LV.out _ HB4.out).mono ?_
      rintro e w9 ⟨rfl, hb⟩
      have HB := Lib.hid hb
      clear hb
      go_wp2_with fail
      go_ret
      exact ⟨rfl, HB.out⟩

end Go.Proofs.YthnodeicbicjcaaDoor
