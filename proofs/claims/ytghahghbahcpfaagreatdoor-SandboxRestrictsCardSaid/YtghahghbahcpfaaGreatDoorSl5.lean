/- The law SandboxRestricts. -/
import Derived.Test.YtghahghbahcpfaaGreatDoorSr1
import Derived.Test.YtghahghbahcpfaaGreatDoorVo4
import Derived.Test.YtghahghbahcpfaaGreatDoorVl1
namespace Go.Proofs.YtghahghbahcpfaaGreatDoor
open Go.RowKit

theorem vlen_restrict {D : ByteArray → Bool} {j : JobM} {v : ViewM} (h : VS v) : VLen (restrictF D j v) := by
  have hb := h.vb
  refine ⟨Nat.le_trans (List.length_filter_le _ _) (by have := hb.files; omega), Nat.le_trans (List.length_filter_le _ _) (by have := hb.arts; omega), Nat.le_trans (List.length_filter_le _ _) (by have := hb.secs; omega), fun s hs => ?_,
    Nat.le_trans (by show (v.caches.take j.ncach).length ≤ _; rw [List.length_take]; exact Nat.min_le_right _ _) (by have := hb.caches; omega), Nat.le_trans (by show (v.keys.take j.ncach).length ≤ _; rw [List.length_take]; exact Nat.min_le_right _ _) (by have := hb.keys; omega),
    by show v.tests.length ≤ _; have := hb.tests; omega, by show v.times.length ≤ _; have := hb.times; omega, by show v.ignored.length ≤ _; have := hb.ign; omega⟩
  have := h.secN s ((List.mem_filter.1 hs).1)
  omega
set_option maxRecDepth 100000 in
set_option maxHeartbeats 6400000 in
theorem restricts_law (c : Nat → Value) (j : JobM) (v : ViewM) (s : ByteArray) (hfj : JFit j) (hfv : VFit v) (m : Int) (w : World) (hm : w.cell? ⟨0, 0, none⟩ = some (.int .i64 m)) (hj : JAt w.heap.size c j w) (hv : VAt w.heap.size c v w) :
    Calls Tryz.prog 4 #[jobA c, viewA c, .string s] w (LawPost w) := by
  have LV := Lib.hid (fun (W : World) (hb : Below w.heap.size w W) => lives_any m W ((hb.cell (p := ⟨0, 0, none⟩) (World.block_lt_of_cell? w _ hm)).trans hm))
  unfold LawPost at LV
  have hw0 : 0 < w.heap.size := World.block_lt_of_cell? w _ hm
  obtain ⟨w1, hw1⟩ : ∃ w1, w.alloc (.cells (jobC c) tJob (0, 0)) = w1 := ⟨_, rfl⟩
  obtain ⟨w2, hw2⟩ : ∃ w2, w1.alloc (.cells (viewC c) tView (0, 0)) = w2 := ⟨_, rfl⟩
  have hs1 : w1.heap.size = w.heap.size + 1 := by rw [← hw1]; simp
  have hs2 : w2.heap.size = w.heap.size + 1 + 1 := by rw [← hw2]; simp [hs1]
  have hk1 : w2.heap[w.heap.size]? = some (.cells (jobC c) tJob (0, 0)) := by rw [← hw2]; exact (hp_old (by omega)).trans (by rw [← hw1]; exact hp_new rfl)
  have hk2 : w2.heap[w.heap.size + 1]? = some (.cells (viewC c) tView (0, 0)) := by rw [← hw2]; exact hp_new (by omega)
  have hb2 : Below w.heap.size w w2 := by rw [← hw2, ← hw1]; exact ((Below.refl _ w).alloc (Nat.le_refl _) _).alloc (by simp) _
  have HB2 := Lib.hid hb2
  have HW1 := Lib.hid hw1
  have HW2 := Lib.hid hw2
  have z2 : w.heap.size + 1 < w2.heap.size := (Array.getElem?_eq_some_iff.1 hk2).1
  have HS : Hid (∀ W, Below w2.heap.size w2 W → W.rangeAt w.heap.size 0 (jobL c) ∧ W.rangeAt (w.heap.size + 1) 0 (viewL c)) := fun W hb =>
    ⟨range_job ((hb.block _ (show w.heap.size < _ by omega)).trans hk1), range_view ((hb.block _ (show w.heap.size + 1 < _ by omega)).trans hk2)⟩
  have HJW : Hid (∀ W, Below w2.heap.size w2 W → JAt W.heap.size c j W) := fun W hb => by
    have hz := hb.size
    exact ((hj.below hb2).below (hb.mono (by omega))).mono (by omega)
  have HVW : Hid (∀ W, Below w2.heap.size w2 W → VAt W.heap.size c v W) := fun W hb => by
    have hz := hb.size
    exact ((hv.below hb2).below (hb.mono (by omega))).mono (by omega)
  have HM : Hid (∀ W, Below w2.heap.size w2 W → W.cell? ⟨0, 0, none⟩ = some (.int .i64 m)) := fun W hb => ((hb2.trans (hb.mono (by omega))).cell (p := ⟨0, 0, none⟩) hw0).trans hm
  have SJ : Hid (∀ W, Below w2.heap.size w2 W → Calls Tryz.prog 9 #[jobA c] W fun e w' => e = .returned (.bool (smallJF j)) ∧ Below W.heap.size W w') := fun W hb => smallJob_any c j W hfj (HJW.out W hb)
  have SV : Hid (∀ W, Below w2.heap.size w2 W → Calls Tryz.prog 10 #[viewA c] W fun e w' => e = .returned (.bool (smallVF v)) ∧ Below W.heap.size W w') := fun W hb => smallView_any c v W hfv (HVW.out W hb)
  have HJS : Hid (smallJF j = true → JS j) := JS.of hfj
  have HVS : Hid (smallVF v = true → VS v) := VS.of hfv
  have HR2 : Hid (Below w2.heap.size w2 w2) := Below.refl _ _
  clear hfj hfv hj hv hm hk1 hk2 hb2 hw1 hw2 hs1 hs2
  generalize smallJF j = sj at *
  generalize smallVF v = sv at *
  go_enter Tryz.func4, Tryz.ntmps4
  go_upto_region 1 with fail
  rw [HW1.out, HW2.out]
  clear HW1 HW2
  refine wp_region_lit ?_
  refine wpList_load_mid rfl tJob (.tmp 3) rfl w.heap.size 0 rfl (jobL c) _ (HS.out _ HR2.out).1 Tryz.underlying38 rfl (by kernel_rfl) ?_
  try simp only [Act.put, zA, zB, zC]
  go_wp2_with fail
  refine (SJ.out _ HR2.out).mono ?_
  rintro e w3 ⟨rfl, hb3⟩
  have HB3 := Lib.hid hb3
  clear hb3 SJ
  cases sj with
  | false =>
    have LV3 := Lib.hid (LV.out _ (HB2.out.trans (HB3.out.mono (by omega))))
    clear LV SV HJS HVS HS HJW HVW HM
    as_aux_lemma =>
    go_wp2_with fail
    refine LV3.out.mono ?_
    rintro e w4 ⟨rfl, hb4⟩
    have HB4 : Hid (Below w.heap.size w w4) := HB2.out.trans ((HB3.out.mono (by omega)).trans (hb4.mono (by have := HB3.out.size; omega)))
    clear hb4
    go_wp2_with fail
    go_ret
    exact ⟨rfl, HB4.out⟩
  | true =>
    have HJ := Lib.hid (HJS.out rfl)
    clear HJS
    rename_i K0 hK0 K1 hK1
    dsimp only
    refine hK1 _ _ ?_
    clear hK1 K1
    try simp only [Act.put, zA, zB, zC]
    refine wpList_plain rfl (fun K hK => ?_)
    go_simp
    refine hK _ _ ?_
    clear hK K
    try simp only [Act.put, zA, zB, zC]
    refine wpList_plain rfl (fun K hK => ?_)
    go_simp
    refine hK _ _ ?_
    clear hK K
    try simp only [Act.put, zA, zB, zC]
    refine wpList_load_midG (by rfl) tView (.tmp 4) rfl (w.heap.size + 1) 0 rfl (viewL c) _ (HS.out _ HB3.out).2 Tryz.underlying45 rfl (by kernel_rfl) ?_
    try simp only [Act.put, zA, zB, zC]
    go_wp2_with fail
    refine (SV.out _ HB3.out).mono ?_
    rintro e w4 ⟨rfl, hb4⟩
    have HB4 : Hid (Below w2.heap.size w2 w4) := HB3.out.trans (hb4.mono HB3.out.size)
    clear hb4 SV HB3
    cases sv with
    | false =>
      have LV4 := Lib.hid (LV.out _ (HB2.out.trans (HB4.out.mono (by omega))))
      clear LV HVS HS HJW HVW HM HJ
      as_aux_lemma =>
      go_wp2_with fail
      refine LV4.out.mono ?_
      rintro e w5 ⟨rfl, hb5⟩
      have HB5 : Hid (Below w.heap.size w w5) := HB2.out.trans ((HB4.out.mono (by omega)).trans (hb5.mono (by have := HB4.out.size; omega)))
      clear hb5
      go_wp2_with fail
      go_ret
      exact ⟨rfl, HB5.out⟩
    | true =>
      have HV := Lib.hid (HVS.out rfl)
      clear HVS
      by_cases hs6 : 600 < s.size
      · have hs6i : (600 : Int) < (s.size : Int) := by omega
        have LV4 := Lib.hid (LV.out _ (HB2.out.trans (HB4.out.mono (by omega))))
        clear LV HS HJW HVW HM HJ HV
        as_aux_lemma =>
        go_wp2_with fail
        refine LV4.out.mono ?_
        rintro e w5 ⟨rfl, hb5⟩
        have HB5 : Hid (Below w.heap.size w w5) := HB2.out.trans ((HB4.out.mono (by omega)).trans (hb5.mono (by have := HB4.out.size; omega)))
        clear hb5
        go_wp2_with fail
        go_ret
        exact ⟨rfl, HB5.out⟩
      · have hs6i : decide ((600 : Int) < (s.size : Int)) = false := decide_eq_false (by omega)
        have hs6n : decide (600 < s.size) = false := decide_eq_false hs6
        have MM := Lib.hid (memo_any s (by omega) w4)
        have HM2 := Lib.hid (fun W => rmemo_any s (by omega) W)
        have SZ := Lib.hid (fun W => size_any (memoF s) W)
        have SZ2 := Lib.hid (fun W => rsize_any (memoF s) W)
        have HVL : Hid (VLen (restrictF (declF j.inputs) j v)) := vlen_restrict HV.out
        have RA := Lib.hid (fun W (hb : Below w2.heap.size w2 W) => restrict_any c j v HJ.out.jb HV.out.vb (fun s hs => by have := HV.out.secN s hs; omega) W (HVW.out _ hb) (HJW.out _ hb))
        have RB := Lib.hid (fun W (hb : Below w2.heap.size w2 W) => rrestrict_any c j v HJ.out.jb HV.out.vb W (HVW.out _ hb) (HJW.out _ hb))
        unfold RePost at RA RB
        have DA : Hid (∀ W, Below w2.heap.size w2 W → Calls Tryz.prog 19 #[jobA c, .string s] W fun e w' => e = .returned (.bool (declF j.inputs s)) ∧ Below W.heap.size W w') := fun W hb => by
          have h1 := (HJW.out W hb).inputs
          obtain ⟨io, ic, h24⟩ := h1.form
          rw [h24] at h1
          exact decl_any c j.inputs io ic s _ (by omega) HJ.out.jb.inputs HJ.out.jb.inputN h24 W h1
        have DB : Hid (∀ W, Below w2.heap.size w2 W → Calls Tryz.prog 20 #[jobA c, .string s] W fun e w' => e = .returned (.bool (declF j.inputs s)) ∧ Below W.heap.size W w') := fun W hb => by
          have h1 := (HJW.out W hb).inputs
          obtain ⟨io, ic, h24⟩ := h1.form
          rw [h24] at h1
          exact rdecl_any c j.inputs io ic s _ (by omega) HJ.out.jb.inputs HJ.out.jb.inputN h24 W h1
        have LV5 : Hid (∀ W, Below w2.heap.size w2 W → Calls Tryz.prog 11 #[] W fun e w' => e = .returned (.bool true) ∧ Below W.heap.size W w') := fun W hb => LV.out W (HB2.out.trans (hb.mono (by omega)))
        generalize declF j.inputs s = db at *
        generalize memoF s = dm at *
        generalize sizeF dm = zs at *
        generalize restrictF _ j v = X at *
        clear LV HJW HVW HM HJ HV
        go_wp2_with fail
        refine MM.out.mono ?_
        rintro e w5 ⟨rfl, hb5⟩
        have HB5 : Hid (Below w2.heap.size w2 w5) := HB4.out.trans (hb5.mono HB4.out.size)
        clear hb5 MM HB4 hs6 hs6i hs6n
        go_upto_region 4 with fail
        have HB6 : Hid (Below w2.heap.size w2 w5.drew) := HB5.out.drew
        refine wp_region_Z (S := fun W' : World => W'.rangeAt w.heap.size 0 (jobL c) ∧ W'.rangeAt (w.heap.size + 1) 0 (viewL c)) 33 (by kernel_rfl) (HS.out _ HB6.out) (fun hHeld => ?_)
        obtain ⟨w6, hw6⟩ : ∃ W, w5.drew = W := ⟨_, rfl⟩
        rw [hw6] at HB6 hHeld
        rw [hw6]
        clear hw6 HB5
        refine wpAnyZ_takeD (i := 0) (v := .agg (jobL c).toArray) rfl (by kernel_rfl) (by kernel_rfl) (by kernel_rfl) (by kernel_rfl) (fun _ _ _ h => h) (yieldsIf_load_mid (by rfl) tJob (.tmp 3) rfl w.heap.size 0 (by rfl) (jobL c) _ (fun W h => h.1) Tryz.underlying38 rfl (by kernel_rfl)) (by assumption) ?_
        try simp only [Act.put, zA, zB, zC]
        refine wpAnyZ_takeD (i := 1) (v := .agg (viewL c).toArray) rfl (by kernel_rfl) (by kernel_rfl) (by kernel_rfl) (by kernel_rfl) (fun _ _ _ h => h) (yieldsIf_load_mid (by rfl) tView (.tmp 4) rfl (w.heap.size + 1) 0 (by rfl) (viewL c) _ (fun W h => h.2) Tryz.underlying45 rfl (by kernel_rfl)) (by assumption) ?_
        try simp only [Act.put, zA, zB, zC]
        refine wpAnyZ_takeD (i := 3) (v := .agg (jobL c).toArray) rfl (by kernel_rfl) (by kernel_rfl) (by kernel_rfl) (by kernel_rfl) (fun _ _ _ h => h) (yieldsIf_load_mid (by rfl) tJob (.tmp 3) rfl w.heap.size 0 (by rfl) (jobL c) _ (fun W h => h.1) Tryz.underlying38 rfl (by kernel_rfl)) (by assumption) ?_
        try simp only [Act.put, zA, zB, zC]
        refine wpAnyZ_takeD (i := 4) (v := .agg (viewL c).toArray) rfl (by kernel_rfl) (by kernel_rfl) (by kernel_rfl) (by kernel_rfl) (fun _ _ _ h => h) (yieldsIf_load_mid (by rfl) tView (.tmp 4) rfl (w.heap.size + 1) 0 (by rfl) (viewL c) _ (fun W h => h.2) Tryz.underlying45 rfl (by kernel_rfl)) (by assumption) ?_
        try simp only [Act.put, zA, zB, zC]
        refine wpAnyZ_oneL (i := 2) (by kernel_rfl) rfl (fun K hK => ?_)
        go_simp
        go_at_call 17
        refine (RA.out _ HB6.out).mono ?_
        rintro e w7 ⟨d1, rfl, hv7, hb7⟩
        have HB7 := Lib.hid (HB6.out.trans (hb7.mono HB6.out.size))
        have HV7 := Lib.hid hv7
        clear hb7
        refine hK.out _ _ (fun _ => HS.out _ HB7.out) (fun hHeld => ?_)
        replace hHeld := hHeld (by decide)
        clear hK K
        try simp only [Act.put, zA, zB, zC]
        refine wpAnyZ_oneL (i := 5) (by kernel_rfl) rfl (fun K hK => ?_)
        go_simp
        go_at_call 18
        refine (RB.out _ HB7.out).mono ?_
        rintro e w8 ⟨d2, rfl, hv8, hb8⟩
        have HB8 := Lib.hid (HB7.out.trans (hb8.mono HB7.out.size))
        have HV8 := Lib.hid hv8
        replace HV7 := Lib.hid (HV7.out.below (hb8.mono (Nat.le_refl _)))
        clear hb8
        refine hK.out _ _ (fun _ => HS.out _ HB8.out) (fun hHeld => ?_)
        replace hHeld := hHeld (by decide)
        clear hK K
        try simp only [Act.put, zA, zB, zC]
        have SW := Lib.hid (sameview_yes X d1 d2 _ _ HVL.out _ HV7.out HV8.out)
        refine wpAnyZ_oneL (i := 6) (by kernel_rfl) rfl (fun K hK => ?_)
        go_simp
        go_at_call 16
        refine (SW.out).mono ?_
        rintro e w9 ⟨rfl, hb9⟩
        have HB9 := Lib.hid (HB8.out.trans (hb9.mono HB8.out.size))
        clear hb9
        refine hK.out _ _ (fun _ => HS.out _ HB9.out) (fun hHeld => ?_)
        replace hHeld := hHeld (by decide)
        clear hK K
        try simp only [Act.put, zA, zB, zC]
        refine ztk 7 ?_
        try simp only [Act.put, zA, zB, zC]
        refine wpAnyZ_takeD (i := 8) (v := .agg (jobL c).toArray) rfl (by kernel_rfl) (by kernel_rfl) (by kernel_rfl) (by kernel_rfl) (fun _ _ _ h => h) (yieldsIf_load_mid (by rfl) tJob (.tmp 3) rfl w.heap.size 0 (by rfl) (jobL c) _ (fun W h => h.1) Tryz.underlying38 rfl (by kernel_rfl)) (by assumption) ?_
        try simp only [Act.put, zA, zB, zC]
        refine ztk 9 ?_
        try simp only [Act.put, zA, zB, zC]
        refine wpAnyZ_takeD (i := 11) (v := .agg (jobL c).toArray) rfl (by kernel_rfl) (by kernel_rfl) (by kernel_rfl) (by kernel_rfl) (fun _ _ _ h => h) (yieldsIf_load_mid (by rfl) tJob (.tmp 3) rfl w.heap.size 0 (by rfl) (jobL c) _ (fun W h => h.1) Tryz.underlying38 rfl (by kernel_rfl)) (by assumption) ?_
        try simp only [Act.put, zA, zB, zC]
        refine ztk 12 ?_
        try simp only [Act.put, zA, zB, zC]
        refine wpAnyZ_oneL (i := 10) (by kernel_rfl) rfl (fun K hK => ?_)
        go_simp
        go_at_call 19
        refine (DA.out _ HB9.out).mono ?_
        rintro e w10 ⟨rfl, hb10⟩
        have HB10 := Lib.hid (HB9.out.trans (hb10.mono HB9.out.size))
        clear hb10
        refine hK.out _ _ (fun _ => HS.out _ HB10.out) (fun hHeld => ?_)
        replace hHeld := hHeld (by decide)
        clear hK K
        try simp only [Act.put, zA, zB, zC]
        refine wpAnyZ_oneL (i := 13) (by kernel_rfl) rfl (fun K hK => ?_)
        go_simp
        go_at_call 20
        refine (DB.out _ HB10.out).mono ?_
        rintro e w11 ⟨rfl, hb11⟩
        have HB11 := Lib.hid (HB10.out.trans (hb11.mono HB10.out.size))
        clear hb11
        refine hK.out _ _ (fun _ => HS.out _ HB11.out) (fun hHeld => ?_)
        replace hHeld := hHeld (by decide)
        clear hK K
        try simp only [Act.put, zA, zB, zC]
        refine ztk 14 ?_
        try simp only [Act.put, zA, zB, zC]
        refine ztk 15 ?_
        try simp only [Act.put, zA, zB, zC]
        refine ztk 16 ?_
        try simp only [Act.put, zA, zB, zC]
        refine ztk 17 ?_
        try simp only [Act.put, zA, zB, zC]
        refine ztk 18 ?_
        try simp only [Act.put, zA, zB, zC]
        refine wpAnyZ_oneL (i := 19) (by kernel_rfl) rfl (fun K hK => ?_)
        go_simp
        go_at_call 21
        refine (HM2.out _).mono ?_
        rintro e w12 ⟨rfl, hb12⟩
        have HB12 := Lib.hid (HB11.out.trans (hb12.mono HB11.out.size))
        clear hb12
        refine hK.out _ _ (fun _ => HS.out _ HB12.out) (fun hHeld => ?_)
        replace hHeld := hHeld (by decide)
        clear hK K
        try simp only [Act.put, zA, zB, zC]
        refine ztk 20 ?_
        try simp only [Act.put, zA, zB, zC]
        refine ztk 21 ?_
        try simp only [Act.put, zA, zB, zC]
        refine ztk 22 ?_
        try simp only [Act.put, zA, zB, zC]
        refine ztk 23 ?_
        try simp only [Act.put, zA, zB, zC]
        refine ztk 25 ?_
        try simp only [Act.put, zA, zB, zC]
        refine wpAnyZ_oneL (i := 24) (by kernel_rfl) rfl (fun K hK => ?_)
        go_simp
        go_at_call 22
        refine (SZ.out _).mono ?_
        rintro e w13 ⟨rfl, hw13⟩
        rw [hw13]
        clear hw13 w13
        refine hK.out _ _ (fun _ => HS.out _ HB12.out) (fun hHeld => ?_)
        replace hHeld := hHeld (by decide)
        clear hK K
        try simp only [Act.put, zA, zB, zC]
        refine wpAnyZ_oneL (i := 26) (by kernel_rfl) rfl (fun K hK => ?_)
        go_simp
        go_at_call 23
        refine (SZ2.out _).mono ?_
        rintro e w13 ⟨rfl, hw13⟩
        rw [hw13]
        clear hw13 w13
        refine hK.out _ _ (fun _ => HS.out _ HB12.out) (fun hHeld => ?_)
        replace hHeld := hHeld (by decide)
        clear hK K
        try simp only [Act.put, zA, zB, zC]
        refine ztk 27 ?_
        try simp only [Act.put, zA, zB, zC]
        refine ztk 28 ?_
        try simp only [Act.put, zA, zB, zC]
        refine ztk 29 ?_
        try simp only [Act.put, zA, zB, zC]
        refine wpAnyZ_oneL (i := 30) (by kernel_rfl) rfl (fun K hK => ?_)
        go_simp
        go_at_call 11
        refine (LV5.out _ HB12.out).mono ?_
        rintro e w13 ⟨rfl, hb13⟩
        have HB13 := Lib.hid (HB12.out.trans (hb13.mono HB12.out.size))
        clear hb13
        refine hK.out _ _ (fun _ => HS.out _ HB13.out) (fun hHeld => ?_)
        replace hHeld := hHeld (by decide)
        clear hK K
        try simp only [Act.put, zA, zB, zC]
        refine ztk 31 ?_
        try simp only [Act.put, zA, zB, zC]
        refine ztk 32 ?_
        try simp only [Act.put, zA, zB, zC]
        refine wpAnyZ_done (by kernel_rfl) ?_ _
        clear hHeld
        have HBF : Hid (Below w.heap.size w w13) := HB2.out.trans (HB13.out.mono (by omega))
        as_aux_lemma =>
        go_wp2_with fail
        go_ret
        exact ⟨rfl, HBF.out⟩
end Go.Proofs.YtghahghbahcpfaaGreatDoor
