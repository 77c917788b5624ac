/- The walks over the laws ValueShows and ValueShown. -/
import Derived.Test.YtbndgmbjfgmdnaaGreatDoorVl3
import Derived.Test.YtbndgmbjfgmdnaaGreatDoorVr4m
import Derived.Test.YtbndgmbjfgmdnaaGreatDoorVp5
namespace Go.Proofs.YtbndgmbjfgmdnaaGreatDoor
open Go.RowKit Go.Deep

theorem empty_list : (⟨#[]⟩ : ByteArray).toList = [] := by rw [Lib.toList_data]
theorem empty_no {s : ByteArray} (h : s.toList.isEmpty = false) : (s.toList == (⟨#[]⟩ : ByteArray).toList) = false := by
  rw [empty_list]
  cases hs : s.toList with
  | nil => rw [hs] at h; cases h
  | cons a l => rfl
theorem empty_yes {s : ByteArray} (h : s.toList.isEmpty = true) : (s.toList == (⟨#[]⟩ : ByteArray).toList) = true := by
  rw [empty_list]
  cases hs : s.toList with
  | nil => rfl
  | cons a l => rw [hs] at h; cases h
theorem show_empty (t : VT) : (bx (showT t)).toList.isEmpty = decide (validF t ≠ 0) := by
  have hb : (bx (showT t)).toList = showT t := by rw [Lib.toList_data]; simp [bx]
  rw [hb]
  unfold showT
  by_cases h : validF t = 0
  · rw [if_pos h, decide_eq_false (fun k => k h)]
    cases hl : litF t with
    | nil => exact absurd hl (lit_some t)
    | cons a l => rfl
  · rw [if_neg h, decide_eq_true h]
    rfl
set_option maxRecDepth 100000 in
set_option maxHeartbeats 6400000 in
theorem shows_law (v0 : Value) (t0 : VT) (w : World) (hp : Pow w) (h0 : VAt w v0 t0) (wf0 : t0.wf) (hl0 : validF t0 = 0 → (litF t0).length ≤ 100000000000) : Calls Tryz.prog 5 #[v0] w (LawPost w) := by
  have SC := fun W (hW : Below w.heap.size w W) => Lib.hid (show_any t0 wf0 hl0 v0 W (hp.below hW) (h0.below hW))
  have RS := fun W (hW : Below w.heap.size w W) => Lib.hid (rshow_any t0 wf0 hl0 v0 W (h0.below hW))
  have VA := fun W (hW : Below w.heap.size w W) => Lib.hid (valid_any v0 t0 W (h0.below hW) wf0)
  have AW := fun W (hW : Below w.heap.size w W) => Lib.hid (awake_any W (hp.below hW))
  have hse := show_empty t0
  obtain ⟨lo0, lc0, ko0, kc0, rfl⟩ := h0.form
  generalize t0.kind = k0 at *
  generalize t0.bool = b0 at *
  generalize t0.int = n0 at *
  generalize t0.str = s0 at *
  generalize t0.list.length = ll0 at *
  generalize t0.keys.length = kl0 at *
  generalize bx (showT t0) = sb at *
  generalize validF t0 = ve at *
  clear h0
  obtain ⟨w1, hw1⟩ : ∃ w1, w.alloc (.cells #[.int .i64 k0, .bool b0, .int .i64 n0, .string s0, .slice lo0 ll0 lc0, .slice ko0 kl0 kc0] 25 (0, 0)) = w1 := ⟨_, rfl⟩
  have hz1 : w1.heap.size = w.heap.size + 1 := by rw [← hw1]; simp
  have hbx1 : Below w.heap.size w w1 := by rw [← hw1]; exact (Below.refl _ w).alloc (Nat.le_refl _) _
  have hk0 : w1.heap[w.heap.size]? = some (.cells #[.int .i64 k0, .bool b0, .int .i64 n0, .string s0, .slice lo0 ll0 lc0, .slice ko0 kl0 kc0] 25 (0, 0)) := by rw [← hw1]; exact hp_new (by omega)
  have HK0 := Lib.hid hk0
  have HB : Hid (Below w.heap.size w w1) := hbx1
  have HLT : Hid (w.heap.size + 1 ≤ w1.heap.size) := by unfold Hid; omega
  have HF : Hid (∀ W' : World, Below w1.heap.size w1 W' → W'.cell? ⟨w.heap.size, 0, none⟩ = some (.int .i64 k0) ∧ W'.cell? ⟨w.heap.size, 1, none⟩ = some (.bool b0) ∧ W'.cell? ⟨w.heap.size, 2, none⟩ = some (.int .i64 n0) ∧ W'.cell? ⟨w.heap.size, 3, none⟩ = some (.string s0) ∧ W'.cell? ⟨w.heap.size, 4, none⟩ = some (.slice lo0 ll0 lc0) ∧ W'.cell? ⟨w.heap.size, 5, none⟩ = some (.slice ko0 kl0 kc0) ∧ Below w1.heap.size w1 W') := fun W' hb => by
    have q0 := (hb.block (w.heap.size) (by have := HLT.out; omega)).trans HK0.out
    exact ⟨cell_of_blk q0 0, cell_of_blk q0 1, cell_of_blk q0 2, cell_of_blk q0 3, cell_of_blk q0 4, cell_of_blk q0 5, hb⟩
  have HS0 := Lib.hid (HF.out _ (Below.refl _ w1).drew)
  have HW1 := Lib.hid hw1
  have SCS : Hid (∀ W' : World, W'.cell? ⟨w.heap.size, 0, none⟩ = some (.int .i64 k0) ∧ W'.cell? ⟨w.heap.size, 1, none⟩ = some (.bool b0) ∧ W'.cell? ⟨w.heap.size, 2, none⟩ = some (.int .i64 n0) ∧ W'.cell? ⟨w.heap.size, 3, none⟩ = some (.string s0) ∧ W'.cell? ⟨w.heap.size, 4, none⟩ = some (.slice lo0 ll0 lc0) ∧ W'.cell? ⟨w.heap.size, 5, none⟩ = some (.slice ko0 kl0 kc0) ∧ Below w1.heap.size w1 W' → Calls Tryz.prog 18 #[.agg #[.int .i64 k0, .bool b0, .int .i64 n0, .string s0, .slice lo0 ll0 lc0, .slice ko0 kl0 kc0]] W' fun e w' => e = .returned (.string sb) ∧ w'.cell? ⟨w.heap.size, 0, none⟩ = some (.int .i64 k0) ∧ w'.cell? ⟨w.heap.size, 1, none⟩ = some (.bool b0) ∧ w'.cell? ⟨w.heap.size, 2, none⟩ = some (.int .i64 n0) ∧ w'.cell? ⟨w.heap.size, 3, none⟩ = some (.string s0) ∧ w'.cell? ⟨w.heap.size, 4, none⟩ = some (.slice lo0 ll0 lc0) ∧ w'.cell? ⟨w.heap.size, 5, none⟩ = some (.slice ko0 kl0 kc0) ∧ Below w1.heap.size w1 w') := fun W' hS => (SC W' (HB.out.trans ((hS.2.2.2.2.2.2).mono HB.out.size))).out.mono (by
    rintro e w' ⟨rfl, hb⟩
    exact ⟨rfl, HF.out w' ((hS.2.2.2.2.2.2).trans (hb.mono (hS.2.2.2.2.2.2).size))⟩)
  have RSS : Hid (∀ W' : World, W'.cell? ⟨w.heap.size, 0, none⟩ = some (.int .i64 k0) ∧ W'.cell? ⟨w.heap.size, 1, none⟩ = some (.bool b0) ∧ W'.cell? ⟨w.heap.size, 2, none⟩ = some (.int .i64 n0) ∧ W'.cell? ⟨w.heap.size, 3, none⟩ = some (.string s0) ∧ W'.cell? ⟨w.heap.size, 4, none⟩ = some (.slice lo0 ll0 lc0) ∧ W'.cell? ⟨w.heap.size, 5, none⟩ = some (.slice ko0 kl0 kc0) ∧ Below w1.heap.size w1 W' → Calls Tryz.prog 19 #[.agg #[.int .i64 k0, .bool b0, .int .i64 n0, .string s0, .slice lo0 ll0 lc0, .slice ko0 kl0 kc0]] W' fun e w' => e = .returned (.string sb) ∧ w'.cell? ⟨w.heap.size, 0, none⟩ = some (.int .i64 k0) ∧ w'.cell? ⟨w.heap.size, 1, none⟩ = some (.bool b0) ∧ w'.cell? ⟨w.heap.size, 2, none⟩ = some (.int .i64 n0) ∧ w'.cell? ⟨w.heap.size, 3, none⟩ = some (.string s0) ∧ w'.cell? ⟨w.heap.size, 4, none⟩ = some (.slice lo0 ll0 lc0) ∧ w'.cell? ⟨w.heap.size, 5, none⟩ = some (.slice ko0 kl0 kc0) ∧ Below w1.heap.size w1 w') := fun W' hS => (RS W' (HB.out.trans ((hS.2.2.2.2.2.2).mono HB.out.size))).out.mono (by
    rintro e w' ⟨rfl, hb⟩
    exact ⟨rfl, HF.out w' ((hS.2.2.2.2.2.2).trans (hb.mono (hS.2.2.2.2.2.2).size))⟩)
  have VAS : Hid (∀ W' : World, W'.cell? ⟨w.heap.size, 0, none⟩ = some (.int .i64 k0) ∧ W'.cell? ⟨w.heap.size, 1, none⟩ = some (.bool b0) ∧ W'.cell? ⟨w.heap.size, 2, none⟩ = some (.int .i64 n0) ∧ W'.cell? ⟨w.heap.size, 3, none⟩ = some (.string s0) ∧ W'.cell? ⟨w.heap.size, 4, none⟩ = some (.slice lo0 ll0 lc0) ∧ W'.cell? ⟨w.heap.size, 5, none⟩ = some (.slice ko0 kl0 kc0) ∧ Below w1.heap.size w1 W' → Calls Tryz.prog 12 #[.agg #[.int .i64 k0, .bool b0, .int .i64 n0, .string s0, .slice lo0 ll0 lc0, .slice ko0 kl0 kc0]] W' fun e w' => e = .returned (.int .i64 (ve : Int)) ∧ w'.cell? ⟨w.heap.size, 0, none⟩ = some (.int .i64 k0) ∧ w'.cell? ⟨w.heap.size, 1, none⟩ = some (.bool b0) ∧ w'.cell? ⟨w.heap.size, 2, none⟩ = some (.int .i64 n0) ∧ w'.cell? ⟨w.heap.size, 3, none⟩ = some (.string s0) ∧ w'.cell? ⟨w.heap.size, 4, none⟩ = some (.slice lo0 ll0 lc0) ∧ w'.cell? ⟨w.heap.size, 5, none⟩ = some (.slice ko0 kl0 kc0) ∧ Below w1.heap.size w1 w') := fun W' hS => (VA W' (HB.out.trans ((hS.2.2.2.2.2.2).mono HB.out.size))).out.mono (by
    rintro e w' ⟨rfl, hb⟩
    exact ⟨rfl, HF.out w' ((hS.2.2.2.2.2.2).trans (hb.mono (hS.2.2.2.2.2.2).size))⟩)
  have AWS : Hid (∀ W' : World, W'.cell? ⟨w.heap.size, 0, none⟩ = some (.int .i64 k0) ∧ W'.cell? ⟨w.heap.size, 1, none⟩ = some (.bool b0) ∧ W'.cell? ⟨w.heap.size, 2, none⟩ = some (.int .i64 n0) ∧ W'.cell? ⟨w.heap.size, 3, none⟩ = some (.string s0) ∧ W'.cell? ⟨w.heap.size, 4, none⟩ = some (.slice lo0 ll0 lc0) ∧ W'.cell? ⟨w.heap.size, 5, none⟩ = some (.slice ko0 kl0 kc0) ∧ Below w1.heap.size w1 W' → Calls Tryz.prog 14 #[] W' fun e w' => e = .returned (.bool true) ∧ w'.cell? ⟨w.heap.size, 0, none⟩ = some (.int .i64 k0) ∧ w'.cell? ⟨w.heap.size, 1, none⟩ = some (.bool b0) ∧ w'.cell? ⟨w.heap.size, 2, none⟩ = some (.int .i64 n0) ∧ w'.cell? ⟨w.heap.size, 3, none⟩ = some (.string s0) ∧ w'.cell? ⟨w.heap.size, 4, none⟩ = some (.slice lo0 ll0 lc0) ∧ w'.cell? ⟨w.heap.size, 5, none⟩ = some (.slice ko0 kl0 kc0) ∧ Below w1.heap.size w1 w') := fun W' hS => (AW W' (HB.out.trans ((hS.2.2.2.2.2.2).mono HB.out.size))).out.mono (by
    rintro e w' ⟨rfl, hb⟩
    exact ⟨rfl, HF.out w' ((hS.2.2.2.2.2.2).trans (hb.mono (hS.2.2.2.2.2.2).size))⟩)
  have ts : (sb.toList == sb.toList) = true := beq_self_eq_true _
  clear SC RS VA AW hp wf0 hl0
  have HS0 := Lib.hid (HF.out _ (Below.refl _ w1))
  clear hk0 hbx1 hw1 hz1
  by_cases hv : ve = 0
  · have t1 : ((ve : Int) != 0) = false := by rw [hv]; rfl
    have t1b : ((ve : Int) == 0) = true := by rw [hv]; rfl
    have t2 : sb.toList.isEmpty = false := by simpa [hv] using hse
    have t3 : (sb.toList == (⟨#[]⟩ : ByteArray).toList) = false := empty_no t2
    clear hse hv
    go_enter Tryz.func5, Tryz.ntmps5
    go_upto_region 1 with fail
    rw [HW1.out]
    clear HW1
    obtain ⟨c00, c01, c02, c03, c04, c05, _⟩ := HS0.out
    go_wp2_with fail
    refine (SCS.out _ HS0.out).mono ?_
    rintro e wS1 ⟨rfl, hS1⟩
    clear c00 c01 c02 c03 c04 c05
    have HS1 := Lib.hid hS1
    obtain ⟨c00, c01, c02, c03, c04, c05, _⟩ := HS1.out
    clear hS1
    go_wp2_with fail
    refine (RSS.out _ HS1.out).mono ?_
    rintro e wS2 ⟨rfl, hS2⟩
    clear c00 c01 c02 c03 c04 c05
    have HS2 := Lib.hid hS2
    obtain ⟨c00, c01, c02, c03, c04, c05, _⟩ := HS2.out
    clear hS2
    go_wp2_with fail
    refine (VAS.out _ HS2.out).mono ?_
    rintro e wS3 ⟨rfl, hS3⟩
    clear c00 c01 c02 c03 c04 c05
    have HS3 := Lib.hid hS3
    obtain ⟨c00, c01, c02, c03, c04, c05, _⟩ := HS3.out
    clear hS3
    go_wp2_with fail
    refine (AWS.out _ HS3.out).mono ?_
    rintro e wS4 ⟨rfl, hS4⟩
    clear c00 c01 c02 c03 c04 c05
    have HS4 := Lib.hid hS4
    obtain ⟨c00, c01, c02, c03, c04, c05, _⟩ := HS4.out
    clear hS4
    go_wp2_with fail
    go_ret
    exact ⟨rfl, HB.out.trans (HS4.out.2.2.2.2.2.2.mono HB.out.size)⟩
  · have t1b : ((ve : Int) == 0) = false := by rw [beq_eq_false_iff_ne]; omega
    have t1 : ((ve : Int) != 0) = true := by simp [bne, t1b]
    have t2 : sb.toList.isEmpty = true := by simpa [hv] using hse
    have t3 : (sb.toList == (⟨#[]⟩ : ByteArray).toList) = true := empty_yes t2
    clear hse hv
    go_enter Tryz.func5, Tryz.ntmps5
    go_upto_region 1 with fail
    rw [HW1.out]
    clear HW1
    obtain ⟨c00, c01, c02, c03, c04, c05, _⟩ := HS0.out
    go_wp2_with fail
    refine (SCS.out _ HS0.out).mono ?_
    rintro e wS1 ⟨rfl, hS1⟩
    clear c00 c01 c02 c03 c04 c05
    have HS1 := Lib.hid hS1
    obtain ⟨c00, c01, c02, c03, c04, c05, _⟩ := HS1.out
    clear hS1
    go_wp2_with fail
    refine (RSS.out _ HS1.out).mono ?_
    rintro e wS2 ⟨rfl, hS2⟩
    clear c00 c01 c02 c03 c04 c05
    have HS2 := Lib.hid hS2
    obtain ⟨c00, c01, c02, c03, c04, c05, _⟩ := HS2.out
    clear hS2
    go_wp2_with fail
    refine (VAS.out _ HS2.out).mono ?_
    rintro e wS3 ⟨rfl, hS3⟩
    clear c00 c01 c02 c03 c04 c05
    have HS3 := Lib.hid hS3
    obtain ⟨c00, c01, c02, c03, c04, c05, _⟩ := HS3.out
    clear hS3
    go_wp2_with fail
    refine (AWS.out _ HS3.out).mono ?_
    rintro e wS4 ⟨rfl, hS4⟩
    clear c00 c01 c02 c03 c04 c05
    have HS4 := Lib.hid hS4
    obtain ⟨c00, c01, c02, c03, c04, c05, _⟩ := HS4.out
    clear hS4
    go_wp2_with fail
    go_ret
    exact ⟨rfl, HB.out.trans (HS4.out.2.2.2.2.2.2.mono HB.out.size)⟩
theorem shown_same {t0 t1 : VT} (h0 : validF t0 = 0) (h1 : validF t1 = 0) : sameV t0 t1 = decide (cmpV t0 t1 = 0) ∧ ((bx (showT t0)).toList == (bx (showT t1)).toList) = decide (cmpV t0 t1 = 0) := by
  have hb : ∀ t, (bx (showT t)).toList = showT t := fun t => by rw [Lib.toList_data]; simp [bx]
  have he := cmp_valid_iff h0 h1
  rw [hb, hb]
  unfold showT
  rw [if_pos h0, if_pos h1]
  by_cases h : t0 = t1
  · rw [decide_eq_true (he.2 h), (sameV_iff t0 t1).2 h, h]
    exact ⟨rfl, beq_self_eq_true _⟩
  · rw [decide_eq_false (fun k => h (he.1 k))]
    exact ⟨Bool.eq_false_iff.2 fun k => h ((sameV_iff t0 t1).1 k), beq_eq_false_iff_ne.2 fun k => h ((lit_inj h0 h1).1 k)⟩
set_option maxRecDepth 100000 in
set_option maxHeartbeats 6400000 in
theorem shown_law (v0 v1 : Value) (t0 t1 : VT) (w : World) (hp : Pow w) (h0 : VAt w v0 t0) (wf0 : t0.wf) (hl0 : validF t0 = 0 → (litF t0).length ≤ 100000000000) (h1 : VAt w v1 t1) (wf1 : t1.wf) (hl1 : validF t1 = 0 → (litF t1).length ≤ 100000000000) : Calls Tryz.prog 6 #[v0, v1] w (LawPost w) := by
  have SC0 := fun W (hW : Below w.heap.size w W) => Lib.hid (show_any t0 wf0 hl0 v0 W (hp.below hW) (h0.below hW))
  have SC1 := fun W (hW : Below w.heap.size w W) => Lib.hid (show_any t1 wf1 hl1 v1 W (hp.below hW) (h1.below hW))
  have RV0 := fun W (hW : Below w.heap.size w W) => Lib.hid (rvalid_any v0 t0 W (h0.below hW) wf0)
  have RV1 := fun W (hW : Below w.heap.size w W) => Lib.hid (rvalid_any v1 t1 W (h1.below hW) wf1)
  have EQ := fun W (hW : Below w.heap.size w W) => Lib.hid (equal_any t0 t1 wf0 wf1 v0 v1 W (h0.below hW) (h1.below hW))
  have SM := fun W (hW : Below w.heap.size w W) => Lib.hid (same_any t0 t1 wf0 wf1 v0 v1 W (h0.below hW) (h1.below hW))
  have AW := fun W (hW : Below w.heap.size w W) => Lib.hid (awake_any W (hp.below hW))
  have hss := fun a b => shown_same (t0 := t0) (t1 := t1) a b
  obtain ⟨lo0, lc0, ko0, kc0, rfl⟩ := h0.form
  obtain ⟨lo1, lc1, ko1, kc1, rfl⟩ := h1.form
  generalize t0.kind = k0 at *
  generalize t0.bool = b0 at *
  generalize t0.int = n0 at *
  generalize t0.str = s0 at *
  generalize t0.list.length = ll0 at *
  generalize t0.keys.length = kl0 at *
  generalize t1.kind = k1 at *
  generalize t1.bool = b1 at *
  generalize t1.int = n1 at *
  generalize t1.str = s1 at *
  generalize t1.list.length = ll1 at *
  generalize t1.keys.length = kl1 at *
  generalize bx (showT t0) = sb0 at *
  generalize bx (showT t1) = sb1 at *
  generalize decide (cmpV t0 t1 = 0) = eq at *
  generalize sameV t0 t1 = sm at *
  generalize validF t0 = ve0 at *
  generalize validF t1 = ve1 at *
  clear h0 h1
  obtain ⟨w1, hw1⟩ : ∃ w1, w.alloc (.cells #[.int .i64 k0, .bool b0, .int .i64 n0, .string s0, .slice lo0 ll0 lc0, .slice ko0 kl0 kc0] 25 (0, 0)) = w1 := ⟨_, rfl⟩
  have hz1 : w1.heap.size = w.heap.size + 1 := by rw [← hw1]; simp
  have hbx1 : Below w.heap.size w w1 := by rw [← hw1]; exact (Below.refl _ w).alloc (Nat.le_refl _) _
  obtain ⟨w2, hw2⟩ : ∃ w2, w1.alloc (.cells #[.int .i64 k1, .bool b1, .int .i64 n1, .string s1, .slice lo1 ll1 lc1, .slice ko1 kl1 kc1] 25 (0, 0)) = w2 := ⟨_, rfl⟩
  have hz2 : w2.heap.size = w.heap.size + 2 := by rw [← hw2]; simp [hz1]
  have hbx2 : Below w1.heap.size w1 w2 := by rw [← hw2]; exact (Below.refl _ w1).alloc (Nat.le_refl _) _
  have hk0 : w2.heap[w.heap.size]? = some (.cells #[.int .i64 k0, .bool b0, .int .i64 n0, .string s0, .slice lo0 ll0 lc0, .slice ko0 kl0 kc0] 25 (0, 0)) := (hbx2.block _ (by omega)).trans (by rw [← hw1]; exact hp_new (by omega))
  have HK0 := Lib.hid hk0
  have hk1 : w2.heap[w.heap.size + 1]? = some (.cells #[.int .i64 k1, .bool b1, .int .i64 n1, .string s1, .slice lo1 ll1 lc1, .slice ko1 kl1 kc1] 25 (0, 0)) := by rw [← hw2]; exact hp_new (by omega)
  have HK1 := Lib.hid hk1
  have HB : Hid (Below w.heap.size w w2) := (hbx1).trans (hbx2.mono (by omega))
  have HLT : Hid (w.heap.size + 2 ≤ w2.heap.size) := by unfold Hid; omega
  have HF : Hid (∀ W' : World, Below w2.heap.size w2 W' → W'.cell? ⟨w.heap.size, 0, none⟩ = some (.int .i64 k0) ∧ W'.cell? ⟨w.heap.size, 1, none⟩ = some (.bool b0) ∧ W'.cell? ⟨w.heap.size, 2, none⟩ = some (.int .i64 n0) ∧ W'.cell? ⟨w.heap.size, 3, none⟩ = some (.string s0) ∧ W'.cell? ⟨w.heap.size, 4, none⟩ = some (.slice lo0 ll0 lc0) ∧ W'.cell? ⟨w.heap.size, 5, none⟩ = some (.slice ko0 kl0 kc0) ∧ W'.cell? ⟨w.heap.size + 1, 0, none⟩ = some (.int .i64 k1) ∧ W'.cell? ⟨w.heap.size + 1, 1, none⟩ = some (.bool b1) ∧ W'.cell? ⟨w.heap.size + 1, 2, none⟩ = some (.int .i64 n1) ∧ W'.cell? ⟨w.heap.size + 1, 3, none⟩ = some (.string s1) ∧ W'.cell? ⟨w.heap.size + 1, 4, none⟩ = some (.slice lo1 ll1 lc1) ∧ W'.cell? ⟨w.heap.size + 1, 5, none⟩ = some (.slice ko1 kl1 kc1) ∧ Below w2.heap.size w2 W') := fun W' hb => by
    have q0 := (hb.block (w.heap.size) (by have := HLT.out; omega)).trans HK0.out
    have q1 := (hb.block (w.heap.size + 1) (by have := HLT.out; omega)).trans HK1.out
    exact ⟨cell_of_blk q0 0, cell_of_blk q0 1, cell_of_blk q0 2, cell_of_blk q0 3, cell_of_blk q0 4, cell_of_blk q0 5, cell_of_blk q1 0, cell_of_blk q1 1, cell_of_blk q1 2, cell_of_blk q1 3, cell_of_blk q1 4, cell_of_blk q1 5, hb⟩
  have HS0 := Lib.hid (HF.out _ (Below.refl _ w2).drew)
  have HW1 := Lib.hid hw1
  have HW2 := Lib.hid hw2
  have SC0S : Hid (∀ W' : World, W'.cell? ⟨w.heap.size, 0, none⟩ = some (.int .i64 k0) ∧ W'.cell? ⟨w.heap.size, 1, none⟩ = some (.bool b0) ∧ W'.cell? ⟨w.heap.size, 2, none⟩ = some (.int .i64 n0) ∧ W'.cell? ⟨w.heap.size, 3, none⟩ = some (.string s0) ∧ W'.cell? ⟨w.heap.size, 4, none⟩ = some (.slice lo0 ll0 lc0) ∧ W'.cell? ⟨w.heap.size, 5, none⟩ = some (.slice ko0 kl0 kc0) ∧ W'.cell? ⟨w.heap.size + 1, 0, none⟩ = some (.int .i64 k1) ∧ W'.cell? ⟨w.heap.size + 1, 1, none⟩ = some (.bool b1) ∧ W'.cell? ⟨w.heap.size + 1, 2, none⟩ = some (.int .i64 n1) ∧ W'.cell? ⟨w.heap.size + 1, 3, none⟩ = some (.string s1) ∧ W'.cell? ⟨w.heap.size + 1, 4, none⟩ = some (.slice lo1 ll1 lc1) ∧ W'.cell? ⟨w.heap.size + 1, 5, none⟩ = some (.slice ko1 kl1 kc1) ∧ Below w2.heap.size w2 W' → Calls Tryz.prog 18 #[.agg #[.int .i64 k0, .bool b0, .int .i64 n0, .string s0, .slice lo0 ll0 lc0, .slice ko0 kl0 kc0]] W' fun e w' => e = .returned (.string sb0) ∧ w'.cell? ⟨w.heap.size, 0, none⟩ = some (.int .i64 k0) ∧ w'.cell? ⟨w.heap.size, 1, none⟩ = some (.bool b0) ∧ w'.cell? ⟨w.heap.size, 2, none⟩ = some (.int .i64 n0) ∧ w'.cell? ⟨w.heap.size, 3, none⟩ = some (.string s0) ∧ w'.cell? ⟨w.heap.size, 4, none⟩ = some (.slice lo0 ll0 lc0) ∧ w'.cell? ⟨w.heap.size, 5, none⟩ = some (.slice ko0 kl0 kc0) ∧ w'.cell? ⟨w.heap.size + 1, 0, none⟩ = some (.int .i64 k1) ∧ w'.cell? ⟨w.heap.size + 1, 1, none⟩ = some (.bool b1) ∧ w'.cell? ⟨w.heap.size + 1, 2, none⟩ = some (.int .i64 n1) ∧ w'.cell? ⟨w.heap.size + 1, 3, none⟩ = some (.string s1) ∧ w'.cell? ⟨w.heap.size + 1, 4, none⟩ = some (.slice lo1 ll1 lc1) ∧ w'.cell? ⟨w.heap.size + 1, 5, none⟩ = some (.slice ko1 kl1 kc1) ∧ Below w2.heap.size w2 w') := fun W' hS => (SC0 W' (HB.out.trans ((hS.2.2.2.2.2.2.2.2.2.2.2.2).mono HB.out.size))).out.mono (by
    rintro e w' ⟨rfl, hb⟩
    exact ⟨rfl, HF.out w' ((hS.2.2.2.2.2.2.2.2.2.2.2.2).trans (hb.mono (hS.2.2.2.2.2.2.2.2.2.2.2.2).size))⟩)
  have SC1S : Hid (∀ W' : World, W'.cell? ⟨w.heap.size, 0, none⟩ = some (.int .i64 k0) ∧ W'.cell? ⟨w.heap.size, 1, none⟩ = some (.bool b0) ∧ W'.cell? ⟨w.heap.size, 2, none⟩ = some (.int .i64 n0) ∧ W'.cell? ⟨w.heap.size, 3, none⟩ = some (.string s0) ∧ W'.cell? ⟨w.heap.size, 4, none⟩ = some (.slice lo0 ll0 lc0) ∧ W'.cell? ⟨w.heap.size, 5, none⟩ = some (.slice ko0 kl0 kc0) ∧ W'.cell? ⟨w.heap.size + 1, 0, none⟩ = some (.int .i64 k1) ∧ W'.cell? ⟨w.heap.size + 1, 1, none⟩ = some (.bool b1) ∧ W'.cell? ⟨w.heap.size + 1, 2, none⟩ = some (.int .i64 n1) ∧ W'.cell? ⟨w.heap.size + 1, 3, none⟩ = some (.string s1) ∧ W'.cell? ⟨w.heap.size + 1, 4, none⟩ = some (.slice lo1 ll1 lc1) ∧ W'.cell? ⟨w.heap.size + 1, 5, none⟩ = some (.slice ko1 kl1 kc1) ∧ Below w2.heap.size w2 W' → Calls Tryz.prog 18 #[.agg #[.int .i64 k1, .bool b1, .int .i64 n1, .string s1, .slice lo1 ll1 lc1, .slice ko1 kl1 kc1]] W' fun e w' => e = .returned (.string sb1) ∧ w'.cell? ⟨w.heap.size, 0, none⟩ = some (.int .i64 k0) ∧ w'.cell? ⟨w.heap.size, 1, none⟩ = some (.bool b0) ∧ w'.cell? ⟨w.heap.size, 2, none⟩ = some (.int .i64 n0) ∧ w'.cell? ⟨w.heap.size, 3, none⟩ = some (.string s0) ∧ w'.cell? ⟨w.heap.size, 4, none⟩ = some (.slice lo0 ll0 lc0) ∧ w'.cell? ⟨w.heap.size, 5, none⟩ = some (.slice ko0 kl0 kc0) ∧ w'.cell? ⟨w.heap.size + 1, 0, none⟩ = some (.int .i64 k1) ∧ w'.cell? ⟨w.heap.size + 1, 1, none⟩ = some (.bool b1) ∧ w'.cell? ⟨w.heap.size + 1, 2, none⟩ = some (.int .i64 n1) ∧ w'.cell? ⟨w.heap.size + 1, 3, none⟩ = some (.string s1) ∧ w'.cell? ⟨w.heap.size + 1, 4, none⟩ = some (.slice lo1 ll1 lc1) ∧ w'.cell? ⟨w.heap.size + 1, 5, none⟩ = some (.slice ko1 kl1 kc1) ∧ Below w2.heap.size w2 w') := fun W' hS => (SC1 W' (HB.out.trans ((hS.2.2.2.2.2.2.2.2.2.2.2.2).mono HB.out.size))).out.mono (by
    rintro e w' ⟨rfl, hb⟩
    exact ⟨rfl, HF.out w' ((hS.2.2.2.2.2.2.2.2.2.2.2.2).trans (hb.mono (hS.2.2.2.2.2.2.2.2.2.2.2.2).size))⟩)
  have RV0S : Hid (∀ W' : World, W'.cell? ⟨w.heap.size, 0, none⟩ = some (.int .i64 k0) ∧ W'.cell? ⟨w.heap.size, 1, none⟩ = some (.bool b0) ∧ W'.cell? ⟨w.heap.size, 2, none⟩ = some (.int .i64 n0) ∧ W'.cell? ⟨w.heap.size, 3, none⟩ = some (.string s0) ∧ W'.cell? ⟨w.heap.size, 4, none⟩ = some (.slice lo0 ll0 lc0) ∧ W'.cell? ⟨w.heap.size, 5, none⟩ = some (.slice ko0 kl0 kc0) ∧ W'.cell? ⟨w.heap.size + 1, 0, none⟩ = some (.int .i64 k1) ∧ W'.cell? ⟨w.heap.size + 1, 1, none⟩ = some (.bool b1) ∧ W'.cell? ⟨w.heap.size + 1, 2, none⟩ = some (.int .i64 n1) ∧ W'.cell? ⟨w.heap.size + 1, 3, none⟩ = some (.string s1) ∧ W'.cell? ⟨w.heap.size + 1, 4, none⟩ = some (.slice lo1 ll1 lc1) ∧ W'.cell? ⟨w.heap.size + 1, 5, none⟩ = some (.slice ko1 kl1 kc1) ∧ Below w2.heap.size w2 W' → Calls Tryz.prog 13 #[.agg #[.int .i64 k0, .bool b0, .int .i64 n0, .string s0, .slice lo0 ll0 lc0, .slice ko0 kl0 kc0]] W' fun e w' => e = .returned (.int .i64 (ve0 : Int)) ∧ w'.cell? ⟨w.heap.size, 0, none⟩ = some (.int .i64 k0) ∧ w'.cell? ⟨w.heap.size, 1, none⟩ = some (.bool b0) ∧ w'.cell? ⟨w.heap.size, 2, none⟩ = some (.int .i64 n0) ∧ w'.cell? ⟨w.heap.size, 3, none⟩ = some (.string s0) ∧ w'.cell? ⟨w.heap.size, 4, none⟩ = some (.slice lo0 ll0 lc0) ∧ w'.cell? ⟨w.heap.size, 5, none⟩ = some (.slice ko0 kl0 kc0) ∧ w'.cell? ⟨w.heap.size + 1, 0, none⟩ = some (.int .i64 k1) ∧ w'.cell? ⟨w.heap.size + 1, 1, none⟩ = some (.bool b1) ∧ w'.cell? ⟨w.heap.size + 1, 2, none⟩ = some (.int .i64 n1) ∧ w'.cell? ⟨w.heap.size + 1, 3, none⟩ = some (.string s1) ∧ w'.cell? ⟨w.heap.size + 1, 4, none⟩ = some (.slice lo1 ll1 lc1) ∧ w'.cell? ⟨w.heap.size + 1, 5, none⟩ = some (.slice ko1 kl1 kc1) ∧ Below w2.heap.size w2 w') := fun W' hS => (RV0 W' (HB.out.trans ((hS.2.2.2.2.2.2.2.2.2.2.2.2).mono HB.out.size))).out.mono (by
    rintro e w' ⟨rfl, hb⟩
    exact ⟨rfl, HF.out w' ((hS.2.2.2.2.2.2.2.2.2.2.2.2).trans (hb.mono (hS.2.2.2.2.2.2.2.2.2.2.2.2).size))⟩)
  have RV1S : Hid (∀ W' : World, W'.cell? ⟨w.heap.size, 0, none⟩ = some (.int .i64 k0) ∧ W'.cell? ⟨w.heap.size, 1, none⟩ = some (.bool b0) ∧ W'.cell? ⟨w.heap.size, 2, none⟩ = some (.int .i64 n0) ∧ W'.cell? ⟨w.heap.size, 3, none⟩ = some (.string s0) ∧ W'.cell? ⟨w.heap.size, 4, none⟩ = some (.slice lo0 ll0 lc0) ∧ W'.cell? ⟨w.heap.size, 5, none⟩ = some (.slice ko0 kl0 kc0) ∧ W'.cell? ⟨w.heap.size + 1, 0, none⟩ = some (.int .i64 k1) ∧ W'.cell? ⟨w.heap.size + 1, 1, none⟩ = some (.bool b1) ∧ W'.cell? ⟨w.heap.size + 1, 2, none⟩ = some (.int .i64 n1) ∧ W'.cell? ⟨w.heap.size + 1, 3, none⟩ = some (.string s1) ∧ W'.cell? ⟨w.heap.size + 1, 4, none⟩ = some (.slice lo1 ll1 lc1) ∧ W'.cell? ⟨w.heap.size + 1, 5, none⟩ = some (.slice ko1 kl1 kc1) ∧ Below w2.heap.size w2 W' → Calls Tryz.prog 13 #[.agg #[.int .i64 k1, .bool b1, .int .i64 n1, .string s1, .slice lo1 ll1 lc1, .slice ko1 kl1 kc1]] W' fun e w' => e = .returned (.int .i64 (ve1 : Int)) ∧ w'.cell? ⟨w.heap.size, 0, none⟩ = some (.int .i64 k0) ∧ w'.cell? ⟨w.heap.size, 1, none⟩ = some (.bool b0) ∧ w'.cell? ⟨w.heap.size, 2, none⟩ = some (.int .i64 n0) ∧ w'.cell? ⟨w.heap.size, 3, none⟩ = some (.string s0) ∧ w'.cell? ⟨w.heap.size, 4, none⟩ = some (.slice lo0 ll0 lc0) ∧ w'.cell? ⟨w.heap.size, 5, none⟩ = some (.slice ko0 kl0 kc0) ∧ w'.cell? ⟨w.heap.size + 1, 0, none⟩ = some (.int .i64 k1) ∧ w'.cell? ⟨w.heap.size + 1, 1, none⟩ = some (.bool b1) ∧ w'.cell? ⟨w.heap.size + 1, 2, none⟩ = some (.int .i64 n1) ∧ w'.cell? ⟨w.heap.size + 1, 3, none⟩ = some (.string s1) ∧ w'.cell? ⟨w.heap.size + 1, 4, none⟩ = some (.slice lo1 ll1 lc1) ∧ w'.cell? ⟨w.heap.size + 1, 5, none⟩ = some (.slice ko1 kl1 kc1) ∧ Below w2.heap.size w2 w') := fun W' hS => (RV1 W' (HB.out.trans ((hS.2.2.2.2.2.2.2.2.2.2.2.2).mono HB.out.size))).out.mono (by
    rintro e w' ⟨rfl, hb⟩
    exact ⟨rfl, HF.out w' ((hS.2.2.2.2.2.2.2.2.2.2.2.2).trans (hb.mono (hS.2.2.2.2.2.2.2.2.2.2.2.2).size))⟩)
  have EQS : Hid (∀ W' : World, W'.cell? ⟨w.heap.size, 0, none⟩ = some (.int .i64 k0) ∧ W'.cell? ⟨w.heap.size, 1, none⟩ = some (.bool b0) ∧ W'.cell? ⟨w.heap.size, 2, none⟩ = some (.int .i64 n0) ∧ W'.cell? ⟨w.heap.size, 3, none⟩ = some (.string s0) ∧ W'.cell? ⟨w.heap.size, 4, none⟩ = some (.slice lo0 ll0 lc0) ∧ W'.cell? ⟨w.heap.size, 5, none⟩ = some (.slice ko0 kl0 kc0) ∧ W'.cell? ⟨w.heap.size + 1, 0, none⟩ = some (.int .i64 k1) ∧ W'.cell? ⟨w.heap.size + 1, 1, none⟩ = some (.bool b1) ∧ W'.cell? ⟨w.heap.size + 1, 2, none⟩ = some (.int .i64 n1) ∧ W'.cell? ⟨w.heap.size + 1, 3, none⟩ = some (.string s1) ∧ W'.cell? ⟨w.heap.size + 1, 4, none⟩ = some (.slice lo1 ll1 lc1) ∧ W'.cell? ⟨w.heap.size + 1, 5, none⟩ = some (.slice ko1 kl1 kc1) ∧ Below w2.heap.size w2 W' → Calls Tryz.prog 17 #[.agg #[.int .i64 k0, .bool b0, .int .i64 n0, .string s0, .slice lo0 ll0 lc0, .slice ko0 kl0 kc0], .agg #[.int .i64 k1, .bool b1, .int .i64 n1, .string s1, .slice lo1 ll1 lc1, .slice ko1 kl1 kc1]] W' fun e w' => e = .returned (.bool eq) ∧ w'.cell? ⟨w.heap.size, 0, none⟩ = some (.int .i64 k0) ∧ w'.cell? ⟨w.heap.size, 1, none⟩ = some (.bool b0) ∧ w'.cell? ⟨w.heap.size, 2, none⟩ = some (.int .i64 n0) ∧ w'.cell? ⟨w.heap.size, 3, none⟩ = some (.string s0) ∧ w'.cell? ⟨w.heap.size, 4, none⟩ = some (.slice lo0 ll0 lc0) ∧ w'.cell? ⟨w.heap.size, 5, none⟩ = some (.slice ko0 kl0 kc0) ∧ w'.cell? ⟨w.heap.size + 1, 0, none⟩ = some (.int .i64 k1) ∧ w'.cell? ⟨w.heap.size + 1, 1, none⟩ = some (.bool b1) ∧ w'.cell? ⟨w.heap.size + 1, 2, none⟩ = some (.int .i64 n1) ∧ w'.cell? ⟨w.heap.size + 1, 3, none⟩ = some (.string s1) ∧ w'.cell? ⟨w.heap.size + 1, 4, none⟩ = some (.slice lo1 ll1 lc1) ∧ w'.cell? ⟨w.heap.size + 1, 5, none⟩ = some (.slice ko1 kl1 kc1) ∧ Below w2.heap.size w2 w') := fun W' hS => (EQ W' (HB.out.trans ((hS.2.2.2.2.2.2.2.2.2.2.2.2).mono HB.out.size))).out.mono (by
    rintro e w' ⟨rfl, hb⟩
    exact ⟨rfl, HF.out w' ((hS.2.2.2.2.2.2.2.2.2.2.2.2).trans (hb.mono (hS.2.2.2.2.2.2.2.2.2.2.2.2).size))⟩)
  have SMS : Hid (∀ W' : World, W'.cell? ⟨w.heap.size, 0, none⟩ = some (.int .i64 k0) ∧ W'.cell? ⟨w.heap.size, 1, none⟩ = some (.bool b0) ∧ W'.cell? ⟨w.heap.size, 2, none⟩ = some (.int .i64 n0) ∧ W'.cell? ⟨w.heap.size, 3, none⟩ = some (.string s0) ∧ W'.cell? ⟨w.heap.size, 4, none⟩ = some (.slice lo0 ll0 lc0) ∧ W'.cell? ⟨w.heap.size, 5, none⟩ = some (.slice ko0 kl0 kc0) ∧ W'.cell? ⟨w.heap.size + 1, 0, none⟩ = some (.int .i64 k1) ∧ W'.cell? ⟨w.heap.size + 1, 1, none⟩ = some (.bool b1) ∧ W'.cell? ⟨w.heap.size + 1, 2, none⟩ = some (.int .i64 n1) ∧ W'.cell? ⟨w.heap.size + 1, 3, none⟩ = some (.string s1) ∧ W'.cell? ⟨w.heap.size + 1, 4, none⟩ = some (.slice lo1 ll1 lc1) ∧ W'.cell? ⟨w.heap.size + 1, 5, none⟩ = some (.slice ko1 kl1 kc1) ∧ Below w2.heap.size w2 W' → Calls Tryz.prog 20 #[.agg #[.int .i64 k0, .bool b0, .int .i64 n0, .string s0, .slice lo0 ll0 lc0, .slice ko0 kl0 kc0], .agg #[.int .i64 k1, .bool b1, .int .i64 n1, .string s1, .slice lo1 ll1 lc1, .slice ko1 kl1 kc1]] W' fun e w' => e = .returned (.bool sm) ∧ w'.cell? ⟨w.heap.size, 0, none⟩ = some (.int .i64 k0) ∧ w'.cell? ⟨w.heap.size, 1, none⟩ = some (.bool b0) ∧ w'.cell? ⟨w.heap.size, 2, none⟩ = some (.int .i64 n0) ∧ w'.cell? ⟨w.heap.size, 3, none⟩ = some (.string s0) ∧ w'.cell? ⟨w.heap.size, 4, none⟩ = some (.slice lo0 ll0 lc0) ∧ w'.cell? ⟨w.heap.size, 5, none⟩ = some (.slice ko0 kl0 kc0) ∧ w'.cell? ⟨w.heap.size + 1, 0, none⟩ = some (.int .i64 k1) ∧ w'.cell? ⟨w.heap.size + 1, 1, none⟩ = some (.bool b1) ∧ w'.cell? ⟨w.heap.size + 1, 2, none⟩ = some (.int .i64 n1) ∧ w'.cell? ⟨w.heap.size + 1, 3, none⟩ = some (.string s1) ∧ w'.cell? ⟨w.heap.size + 1, 4, none⟩ = some (.slice lo1 ll1 lc1) ∧ w'.cell? ⟨w.heap.size + 1, 5, none⟩ = some (.slice ko1 kl1 kc1) ∧ Below w2.heap.size w2 w') := fun W' hS => (SM W' (HB.out.trans ((hS.2.2.2.2.2.2.2.2.2.2.2.2).mono HB.out.size))).out.mono (by
    rintro e w' ⟨rfl, hb⟩
    exact ⟨rfl, HF.out w' ((hS.2.2.2.2.2.2.2.2.2.2.2.2).trans (hb.mono (hS.2.2.2.2.2.2.2.2.2.2.2.2).size))⟩)
  have AWS : Hid (∀ W' : World, W'.cell? ⟨w.heap.size, 0, none⟩ = some (.int .i64 k0) ∧ W'.cell? ⟨w.heap.size, 1, none⟩ = some (.bool b0) ∧ W'.cell? ⟨w.heap.size, 2, none⟩ = some (.int .i64 n0) ∧ W'.cell? ⟨w.heap.size, 3, none⟩ = some (.string s0) ∧ W'.cell? ⟨w.heap.size, 4, none⟩ = some (.slice lo0 ll0 lc0) ∧ W'.cell? ⟨w.heap.size, 5, none⟩ = some (.slice ko0 kl0 kc0) ∧ W'.cell? ⟨w.heap.size + 1, 0, none⟩ = some (.int .i64 k1) ∧ W'.cell? ⟨w.heap.size + 1, 1, none⟩ = some (.bool b1) ∧ W'.cell? ⟨w.heap.size + 1, 2, none⟩ = some (.int .i64 n1) ∧ W'.cell? ⟨w.heap.size + 1, 3, none⟩ = some (.string s1) ∧ W'.cell? ⟨w.heap.size + 1, 4, none⟩ = some (.slice lo1 ll1 lc1) ∧ W'.cell? ⟨w.heap.size + 1, 5, none⟩ = some (.slice ko1 kl1 kc1) ∧ Below w2.heap.size w2 W' → Calls Tryz.prog 14 #[] W' fun e w' => e = .returned (.bool true) ∧ w'.cell? ⟨w.heap.size, 0, none⟩ = some (.int .i64 k0) ∧ w'.cell? ⟨w.heap.size, 1, none⟩ = some (.bool b0) ∧ w'.cell? ⟨w.heap.size, 2, none⟩ = some (.int .i64 n0) ∧ w'.cell? ⟨w.heap.size, 3, none⟩ = some (.string s0) ∧ w'.cell? ⟨w.heap.size, 4, none⟩ = some (.slice lo0 ll0 lc0) ∧ w'.cell? ⟨w.heap.size, 5, none⟩ = some (.slice ko0 kl0 kc0) ∧ w'.cell? ⟨w.heap.size + 1, 0, none⟩ = some (.int .i64 k1) ∧ w'.cell? ⟨w.heap.size + 1, 1, none⟩ = some (.bool b1) ∧ w'.cell? ⟨w.heap.size + 1, 2, none⟩ = some (.int .i64 n1) ∧ w'.cell? ⟨w.heap.size + 1, 3, none⟩ = some (.string s1) ∧ w'.cell? ⟨w.heap.size + 1, 4, none⟩ = some (.slice lo1 ll1 lc1) ∧ w'.cell? ⟨w.heap.size + 1, 5, none⟩ = some (.slice ko1 kl1 kc1) ∧ Below w2.heap.size w2 w') := fun W' hS => (AW W' (HB.out.trans ((hS.2.2.2.2.2.2.2.2.2.2.2.2).mono HB.out.size))).out.mono (by
    rintro e w' ⟨rfl, hb⟩
    exact ⟨rfl, HF.out w' ((hS.2.2.2.2.2.2.2.2.2.2.2.2).trans (hb.mono (hS.2.2.2.2.2.2.2.2.2.2.2.2).size))⟩)
  clear SC0 SC1 RV0 RV1 EQ SM AW hp wf0 wf1 hl0 hl1
  have HS0 := Lib.hid (HF.out _ (Below.refl _ w2))
  clear hk0 hk1 hbx1 hbx2 hw1 hw2 hz1 hz2
  by_cases hv0 : ve0 = 0
  · have t0a : ((ve0 : Int) != 0) = false := by rw [hv0]; rfl
    have t0b : ((ve0 : Int) == 0) = true := by rw [hv0]; rfl
    by_cases hv1 : ve1 = 0
    · have t1a : ((ve1 : Int) != 0) = false := by rw [hv1]; rfl
      have t1b : ((ve1 : Int) == 0) = true := by rw [hv1]; rfl
      obtain ⟨h2, h3⟩ := hss hv0 hv1
      subst h2
      have ts : ((sb0.toList == sb1.toList) == sm) = true := by rw [h3]; exact beq_self_eq_true _
      have tq : (sm == sm) = true := beq_self_eq_true _
      clear hss hv0 hv1 h3
      go_enter Tryz.func6, Tryz.ntmps6
      go_upto_region 1 with fail
      rw [HW1.out, HW2.out]
      clear HW1 HW2
      obtain ⟨c00, c01, c02, c03, c04, c05, c10, c11, c12, c13, c14, c15, _⟩ := HS0.out
      go_wp2_with fail
      refine (RV0S.out _ HS0.out).mono ?_
      rintro e wS1 ⟨rfl, hS1⟩
      clear c00 c01 c02 c03 c04 c05 c10 c11 c12 c13 c14 c15
      have HS1 := Lib.hid hS1
      obtain ⟨c00, c01, c02, c03, c04, c05, c10, c11, c12, c13, c14, c15, _⟩ := HS1.out
      clear hS1
      go_wp2_with fail
      refine (RV1S.out _ HS1.out).mono ?_
      rintro e wS2 ⟨rfl, hS2⟩
      clear c00 c01 c02 c03 c04 c05 c10 c11 c12 c13 c14 c15
      have HS2 := Lib.hid hS2
      obtain ⟨c00, c01, c02, c03, c04, c05, c10, c11, c12, c13, c14, c15, _⟩ := HS2.out
      clear hS2
      go_upto_region 3 with fail
      have HS0 := Lib.hid (HF.out _ (Below.drew HS2.out.2.2.2.2.2.2.2.2.2.2.2.2))
      go_region_held3 (fun W' : World => W'.cell? ⟨w.heap.size, 0, none⟩ = some (.int .i64 k0) ∧ W'.cell? ⟨w.heap.size, 1, none⟩ = some (.bool b0) ∧ W'.cell? ⟨w.heap.size, 2, none⟩ = some (.int .i64 n0) ∧ W'.cell? ⟨w.heap.size, 3, none⟩ = some (.string s0) ∧ W'.cell? ⟨w.heap.size, 4, none⟩ = some (.slice lo0 ll0 lc0) ∧ W'.cell? ⟨w.heap.size, 5, none⟩ = some (.slice ko0 kl0 kc0) ∧ W'.cell? ⟨w.heap.size + 1, 0, none⟩ = some (.int .i64 k1) ∧ W'.cell? ⟨w.heap.size + 1, 1, none⟩ = some (.bool b1) ∧ W'.cell? ⟨w.heap.size + 1, 2, none⟩ = some (.int .i64 n1) ∧ W'.cell? ⟨w.heap.size + 1, 3, none⟩ = some (.string s1) ∧ W'.cell? ⟨w.heap.size + 1, 4, none⟩ = some (.slice lo1 ll1 lc1) ∧ W'.cell? ⟨w.heap.size + 1, 5, none⟩ = some (.slice ko1 kl1 kc1) ∧ Below w2.heap.size w2 W') (first | exact HS0.out | assumption | go_keep)
        (first
          | (go_at_call 18; with_reducible refine (SC0S.out _ (by assumption)).mono ?_; rintro e wA0 ⟨rfl, hSA0⟩)
          | (go_at_call 18; with_reducible refine (SC1S.out _ (by assumption)).mono ?_; rintro e wA1 ⟨rfl, hSA1⟩)
          | (go_at_call 17; with_reducible refine (EQS.out _ (by assumption)).mono ?_; rintro e wA2 ⟨rfl, hSA2⟩)
          | (go_at_call 20; with_reducible refine (SMS.out _ (by assumption)).mono ?_; rintro e wA3 ⟨rfl, hSA3⟩)
          | (go_at_call 14; with_reducible refine (AWS.out _ (by assumption)).mono ?_; rintro e wA4 ⟨rfl, hSA4⟩))
      go_wp2_with fail
      go_ret
      exact ⟨rfl, HB.out.trans (hSA4.2.2.2.2.2.2.2.2.2.2.2.2.mono HB.out.size)⟩
    · have t1b : ((ve1 : Int) == 0) = false := by rw [beq_eq_false_iff_ne]; omega
      have t1a : ((ve1 : Int) != 0) = true := by simp [bne, t1b]
      clear hss hv0 hv1
      go_enter Tryz.func6, Tryz.ntmps6
      go_upto_region 1 with fail
      rw [HW1.out, HW2.out]
      clear HW1 HW2
      obtain ⟨c00, c01, c02, c03, c04, c05, c10, c11, c12, c13, c14, c15, _⟩ := HS0.out
      go_wp2_with fail
      refine (RV0S.out _ HS0.out).mono ?_
      rintro e wS1 ⟨rfl, hS1⟩
      clear c00 c01 c02 c03 c04 c05 c10 c11 c12 c13 c14 c15
      have HS1 := Lib.hid hS1
      obtain ⟨c00, c01, c02, c03, c04, c05, c10, c11, c12, c13, c14, c15, _⟩ := HS1.out
      clear hS1
      go_wp2_with fail
      refine (RV1S.out _ HS1.out).mono ?_
      rintro e wS2 ⟨rfl, hS2⟩
      clear c00 c01 c02 c03 c04 c05 c10 c11 c12 c13 c14 c15
      have HS2 := Lib.hid hS2
      obtain ⟨c00, c01, c02, c03, c04, c05, c10, c11, c12, c13, c14, c15, _⟩ := HS2.out
      clear hS2
      go_wp2_with fail
      refine (AWS.out _ HS2.out).mono ?_
      rintro e wS3 ⟨rfl, hS3⟩
      clear c00 c01 c02 c03 c04 c05 c10 c11 c12 c13 c14 c15
      have HS3 := Lib.hid hS3
      obtain ⟨c00, c01, c02, c03, c04, c05, c10, c11, c12, c13, c14, c15, _⟩ := HS3.out
      clear hS3
      go_wp2_with fail
      go_ret
      exact ⟨rfl, HB.out.trans (HS3.out.2.2.2.2.2.2.2.2.2.2.2.2.mono HB.out.size)⟩
  · have t0b : ((ve0 : Int) == 0) = false := by rw [beq_eq_false_iff_ne]; omega
    have t0a : ((ve0 : Int) != 0) = true := by simp [bne, t0b]
    clear hss hv0
    go_enter Tryz.func6, Tryz.ntmps6
    go_upto_region 1 with fail
    rw [HW1.out, HW2.out]
    clear HW1 HW2
    obtain ⟨c00, c01, c02, c03, c04, c05, c10, c11, c12, c13, c14, c15, _⟩ := HS0.out
    go_wp2_with fail
    refine (RV0S.out _ HS0.out).mono ?_
    rintro e wS1 ⟨rfl, hS1⟩
    clear c00 c01 c02 c03 c04 c05 c10 c11 c12 c13 c14 c15
    have HS1 := Lib.hid hS1
    obtain ⟨c00, c01, c02, c03, c04, c05, c10, c11, c12, c13, c14, c15, _⟩ := HS1.out
    clear hS1
    go_wp2_with fail
    refine (AWS.out _ HS1.out).mono ?_
    rintro e wS2 ⟨rfl, hS2⟩
    clear c00 c01 c02 c03 c04 c05 c10 c11 c12 c13 c14 c15
    have HS2 := Lib.hid hS2
    obtain ⟨c00, c01, c02, c03, c04, c05, c10, c11, c12, c13, c14, c15, _⟩ := HS2.out
    clear hS2
    go_wp2_with fail
    go_ret
    exact ⟨rfl, HB.out.trans (HS2.out.2.2.2.2.2.2.2.2.2.2.2.2.mono HB.out.size)⟩
end Go.Proofs.YtbndgmbjfgmdnaaGreatDoor
