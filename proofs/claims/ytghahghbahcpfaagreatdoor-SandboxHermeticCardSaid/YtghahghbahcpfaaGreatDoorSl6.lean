/- The law SandboxHermetic. -/
import Derived.Test.YtghahghbahcpfaaGreatDoorSh8
import Derived.Test.YtghahghbahcpfaaGreatDoorVo4
import Derived.Test.YtghahghbahcpfaaGreatDoorVo6
import Derived.Test.YtghahghbahcpfaaGreatDoorVl1
import Derived.Deep.DeepCutAuto
namespace Go.Proofs.YtghahghbahcpfaaGreatDoor
open Go.RowKit

theorem vb_restrict {D : ByteArray → Bool} {j : JobM} {v : ViewM} (h : VB v) : VB (restrictF D j v) :=
  ⟨Nat.le_trans (List.length_filter_le _ _) h.files, Nat.le_trans (List.length_filter_le _ _) h.arts, Nat.le_trans (List.length_filter_le _ _) h.secs,
    Nat.le_trans (by show (v.caches.take j.ncach).length ≤ _; rw [List.length_take]; exact Nat.min_le_right _ _) h.caches, Nat.le_trans (by show (v.keys.take j.ncach).length ≤ _; rw [List.length_take]; exact Nat.min_le_right _ _) h.keys, h.tests, h.times, h.ign,
    fun f hf => h.fileN f (List.mem_filter.1 hf).1, fun f hf => h.artN f (List.mem_filter.1 hf).1, fun f hf => h.secN f (List.mem_filter.1 hf).1, fun f hf => h.keyN f (List.mem_of_mem_take hf)⟩
theorem vb_hidden {D : ByteArray → Bool} {j : JobM} {v y : ViewM} (h : VB v) (k : VB y) (l1 : v.files.length + y.files.length ≤ 1000000) (l2 : v.arts.length + y.arts.length ≤ 1000000) (l3 : v.secs.length + y.secs.length ≤ 1000000) : VB (hiddenF D j v y) := by
  refine ⟨?_, ?_, ?_, k.caches, h.keys, h.tests, k.times, k.ign, fun f hf => ?_, fun f hf => ?_, fun f hf => ?_, h.keyN⟩
  · show (v.files ++ y.files.filter _).length ≤ _
    rw [List.length_append]
    have := List.length_filter_le (fun f : FileM => !D f.path) y.files
    omega
  · show (v.arts ++ y.arts.filter _).length ≤ _
    rw [List.length_append]
    have := List.length_filter_le (fun o : OutM => !j.uses.contains o.name) y.arts
    omega
  · show (v.secs ++ y.secs.filter _).length ≤ _
    rw [List.length_append]
    have := List.length_filter_le (fun s : SecM => !j.secrets.contains s.name) y.secs
    omega
  · exact (List.mem_append.1 hf).elim (h.fileN f) fun hf => k.fileN f (List.mem_filter.1 hf).1
  · exact (List.mem_append.1 hf).elim (h.artN f) fun hf => k.artN f (List.mem_filter.1 hf).1
  · exact (List.mem_append.1 hf).elim (h.secN f) fun hf => k.secN f (List.mem_filter.1 hf).1
/-- what a region leaves that runs one execution -/
def OneRel (w0 : World) (E : EffM) (s : Value) (wx : World) : Prop := ∃ p, s = .pointer (some ⟨p, 0, none⟩) ∧ EffBlk wx p E ∧ w0.heap.size ≤ p ∧ Below w0.heap.size w0 wx
set_option maxRecDepth 100000 in
set_option maxHeartbeats 12800000 in
theorem hermetic_law (c e : Nat → Value) (j : JobM) (v y : ViewM) (hfj : JFit j) (hfv : VFit v) (hfy : VFit y) (m : Int) (w : World) (hm : w.cell? ⟨0, 0, none⟩ = some (.int .i64 m)) (hj : JAt w.heap.size c j w) (hv : VAt w.heap.size c v w) (hy : VAt w.heap.size e y w) :
    Calls Tryz.prog 5 #[jobA c, viewA c, viewA e] w (LawPost w) := by
  have LV := Lib.hid (fun (W : World) (hb : Below w.heap.size w W) => lives_any m W ((hb.cell (p := ⟨0, 0, none⟩) (World.block_lt_of_cell? w _ hm)).trans hm))
  unfold LawPost at LV
  have hw0 : 0 < w.heap.size := World.block_lt_of_cell? w _ hm
  obtain ⟨w1, hw1⟩ : ∃ w1, w.alloc (.cells (jobC c) tJob (0, 0)) = w1 := ⟨_, rfl⟩
  obtain ⟨w2, hw2⟩ : ∃ w2, w1.alloc (.cells (viewC c) tView (0, 0)) = w2 := ⟨_, rfl⟩
  obtain ⟨w3, hw3⟩ : ∃ w3, w2.alloc (.cells (viewC e) tView (0, 0)) = w3 := ⟨_, rfl⟩
  have hs1 : w1.heap.size = w.heap.size + 1 := by rw [← hw1]; simp
  have hs2 : w2.heap.size = w.heap.size + 1 + 1 := by rw [← hw2]; simp [hs1]
  have hk1 : w3.heap[w.heap.size]? = some (.cells (jobC c) tJob (0, 0)) := by rw [← hw3]; exact (hp_old (by omega)).trans (by rw [← hw2]; exact (hp_old (by omega)).trans (by rw [← hw1]; exact hp_new rfl))
  have hk2 : w3.heap[w.heap.size + 1]? = some (.cells (viewC c) tView (0, 0)) := by rw [← hw3]; exact (hp_old (by omega)).trans (by rw [← hw2]; exact hp_new (by omega))
  have hk3 : w3.heap[w.heap.size + 1 + 1]? = some (.cells (viewC e) tView (0, 0)) := by rw [← hw3]; exact hp_new (by omega)
  have hb3 : Below w.heap.size w w3 := by rw [← hw3, ← hw2, ← hw1]; exact (((Below.refl _ w).alloc (Nat.le_refl _) _).alloc (by simp) _).alloc (by simp; omega) _
  have HBB := Lib.hid hb3
  have HW1 := Lib.hid hw1
  have HW2 := Lib.hid hw2
  have HW3 := Lib.hid hw3
  have z3 : w.heap.size + 1 + 1 < w3.heap.size := (Array.getElem?_eq_some_iff.1 hk3).1
  have HS : Hid (∀ W, Below w3.heap.size w3 W → W.rangeAt w.heap.size 0 (jobL c) ∧ W.rangeAt (w.heap.size + 1) 0 (viewL c) ∧ W.rangeAt (w.heap.size + 1 + 1) 0 (viewL e)) := fun W hb =>
    ⟨range_job ((hb.block _ (show w.heap.size < _ by omega)).trans hk1), range_view ((hb.block _ (show w.heap.size + 1 < _ by omega)).trans hk2), range_view ((hb.block _ (show w.heap.size + 1 + 1 < _ by omega)).trans hk3)⟩
  have HJW : Hid (∀ W, Below w3.heap.size w3 W → JAt W.heap.size c j W) := fun W hb => by
    have hz := hb.size
    exact ((hj.below hb3).below (hb.mono (by omega))).mono (by omega)
  have HVW : Hid (∀ W, Below w3.heap.size w3 W → VAt W.heap.size c v W) := fun W hb => by
    have hz := hb.size
    exact ((hv.below hb3).below (hb.mono (by omega))).mono (by omega)
  have HYW : Hid (∀ W, Below w3.heap.size w3 W → VAt W.heap.size e y W) := fun W hb => by
    have hz := hb.size
    exact ((hy.below hb3).below (hb.mono (by omega))).mono (by omega)
  have HM : Hid (∀ W, Below w3.heap.size w3 W → W.cell? ⟨0, 0, none⟩ = some (.int .i64 m)) := fun W hb => ((hb3.trans (hb.mono (by omega))).cell (p := ⟨0, 0, none⟩) hw0).trans hm
  have SJ : Hid (∀ W, Below w3.heap.size w3 W → Calls Tryz.prog 9 #[jobA c] W fun e w' => e = .returned (.bool (smallJF j)) ∧ Below W.heap.size W w') := fun W hb => smallJob_any c j W hfj (HJW.out W hb)
  have SV : Hid (∀ W, Below w3.heap.size w3 W → Calls Tryz.prog 10 #[viewA c] W fun e w' => e = .returned (.bool (smallVF v)) ∧ Below W.heap.size W w') := fun W hb => smallView_any c v W hfv (HVW.out W hb)
  have SY : Hid (∀ W, Below w3.heap.size w3 W → Calls Tryz.prog 10 #[viewA e] W fun e w' => e = .returned (.bool (smallVF y)) ∧ Below W.heap.size W w') := fun W hb => smallView_any e y W hfy (HYW.out W hb)
  have HJS : Hid (smallJF j = true → JS j) := JS.of hfj
  have HVS : Hid (smallVF v = true → VS v) := VS.of hfv
  have HYS : Hid (smallVF y = true → VS y) := VS.of hfy
  have HR3 : Hid (Below w3.heap.size w3 w3) := Below.refl _ _
  have LW : Hid (∀ W, Below w3.heap.size w3 W → Calls Tryz.prog 11 #[] W fun e w' => e = .returned (.bool true) ∧ Below W.heap.size W w') := fun W hb => LV.out W (hb3.trans (hb.mono (by omega)))
  clear hfj hfv hfy hj hv hy hm hk1 hk2 hk3 hb3 hw1 hw2 hw3 hs1 hs2 LV
  generalize smallJF j = sj at *
  generalize smallVF v = sv at *
  generalize smallVF y = sy at *
  go_enter Tryz.func5, Tryz.ntmps5
  go_upto_region 1 with fail
  rw [HW1.out, HW2.out, HW3.out]
  clear HW1 HW2 HW3
  refine wp_region_lit ?_
  refine wpList_load_mid rfl tJob (.tmp 3) rfl w.heap.size 0 rfl (jobL c) _ (HS.out _ HR3.out).1 Tryz.underlying38 rfl (by kernel_rfl) ?_
  try simp only [Act.put, zA, zB, zC]
  go_wp2_with fail
  refine (SJ.out _ HR3.out).mono ?_
  rintro e w4 ⟨rfl, hb4⟩
  have HB4 := Lib.hid hb4
  clear hb4 SJ
  cases sj with
  | false =>
    clear SV SY HJS HVS HYS HS HJW HVW HYW HM
    as_aux_lemma =>
    go_wp2_with fail
    refine (LW.out _ HB4.out).mono ?_
    rintro e w9 ⟨rfl, hb9⟩
    have HB9 : Hid (Below w.heap.size w w9) := HBB.out.trans ((HB4.out.trans (hb9.mono HB4.out.size)).mono (by omega))
    clear hb9
    go_wp2_with fail
    go_ret
    exact ⟨rfl, HB9.out⟩
  | true =>
    have HJ := Lib.hid (HJS.out rfl)
    clear HJS
    go_wp2_with (refine wpList_load_midG (by rfl) tView (.tmp 4) rfl (w.heap.size + 1) 0 rfl (viewL c) _ (HS.out _ HB4.out).2.1 Tryz.underlying45 rfl (by kernel_rfl) ?_)
    try simp only [Act.put, zA, zB, zC]
    go_wp2_with fail
    refine (SV.out _ HB4.out).mono ?_
    rintro e w5 ⟨rfl, hb5⟩
    have HB5 : Hid (Below w3.heap.size w3 w5) := HB4.out.trans (hb5.mono HB4.out.size)
    clear hb5 SV HB4
    cases sv with
    | false =>
      clear SY HVS HYS HS HJW HVW HYW HM HJ
      as_aux_lemma =>
      go_wp2_with fail
      refine (LW.out _ HB5.out).mono ?_
      rintro e w9 ⟨rfl, hb9⟩
      have HB9 : Hid (Below w.heap.size w w9) := HBB.out.trans ((HB5.out.trans (hb9.mono HB5.out.size)).mono (by omega))
      clear hb9
      go_wp2_with fail
      go_ret
      exact ⟨rfl, HB9.out⟩
    | true =>
      have HV := Lib.hid (HVS.out rfl)
      clear HVS
      go_wp2_with (refine wpList_load_midG (by rfl) tView (.tmp 5) rfl (w.heap.size + 1 + 1) 0 rfl (viewL e) _ (HS.out _ HB5.out).2.2 Tryz.underlying45 rfl (by kernel_rfl) ?_)
      try simp only [Act.put, zA, zB, zC]
      go_wp2_with fail
      refine (SY.out _ HB5.out).mono ?_
      rintro e w6 ⟨rfl, hb6⟩
      have HB6 : Hid (Below w3.heap.size w3 w6) := HB5.out.trans (hb6.mono HB5.out.size)
      clear hb6 SY HB5
      cases sy with
      | false =>
        clear HYS HS HJW HVW HYW HM HJ HV
        as_aux_lemma =>
        go_wp2_with fail
        refine (LW.out _ HB6.out).mono ?_
        rintro e w9 ⟨rfl, hb9⟩
        have HB9 : Hid (Below w.heap.size w w9) := HBB.out.trans ((HB6.out.trans (hb9.mono HB6.out.size)).mono (by omega))
        clear hb9
        go_wp2_with fail
        go_ret
        exact ⟨rfl, HB9.out⟩
      | true =>
        have HY := Lib.hid (HYS.out rfl)
        clear HYS
        have RA := Lib.hid (restrict_any c j v HJ.out.jb HV.out.vb (fun s hs => by have := HV.out.secN s hs; omega) w6 (HVW.out _ HB6.out) (HJW.out _ HB6.out))
        unfold RePost at RA
        go_upto_region 3 with fail
        refine wp_region_lit ?_
        refine wpList_load_mid rfl tJob (.tmp 3) rfl w.heap.size 0 rfl (jobL c) _ (HS.out _ HB6.out).1 Tryz.underlying38 rfl (by kernel_rfl) ?_
        try simp only [Act.put, zA, zB, zC]
        refine wpList_load_mid rfl tView (.tmp 4) rfl (w.heap.size + 1) 0 rfl (viewL c) _ (HS.out _ HB6.out).2.1 Tryz.underlying45 rfl (by kernel_rfl) ?_
        try simp only [Act.put, zA, zB, zC]
        go_wp2_with fail
        refine RA.out.mono ?_
        rintro e w7 ⟨d, rfl, hv7, hb7⟩
        have HB7 : Hid (Below w3.heap.size w3 w7) := HB6.out.trans (hb7.mono HB6.out.size)
        have HV7 := Lib.hid hv7
        clear hb7 hv7 RA HB6
        go_wp2_with (refine wpList_store_row rfl tView _ _ rfl w7.heap.size rfl tView _ (hp_new rfl) (.agg (viewC d)) rfl (by kernel_rfl) rfl (view_one HV7.out) ?_)
        intro w8 hw8
        have hk8 : w8.heap[w7.heap.size]? = some (.cells (viewC d) tView (0, 0)) := hw8.at_
        have hb78 : Below w7.heap.size w7 w8 := ((Below.refl _ w7).alloc (Nat.le_refl _) _).trans (hw8.below (Nat.le_refl _))
        have HV8 : Hid (∀ W, Below w8.heap.size w8 W → VAt W.heap.size d (restrictF (declF j.inputs) j v) W) := fun W hb => by
          have hz := hb.size
          have hz2 := hb78.size
          exact ((HV7.out.below hb78).below (hb.mono hb78.size)).mono (by omega)
        obtain ⟨g, hg⟩ : ∃ g, w7.heap.size = g := ⟨_, rfl⟩
        have z7 := HB7.out.size
        rw [hg] at hk8 hb78 z7
        rw [hg]
        have HB8 : Hid (Below w3.heap.size w3 w8) := HB7.out.trans (hb78.mono z7)
        have HK8 := Lib.hid hk8
        have zg : g < w8.heap.size := (Array.getElem?_eq_some_iff.1 hk8).1
        have z8 : w3.heap.size ≤ w8.heap.size := by omega
        clear hw8 hb78 hg hk8 HV7 HB7
        have HS6 : Hid (∀ W, Below w8.heap.size w8 W → W.rangeAt w.heap.size 0 (jobL c) ∧ W.rangeAt (w.heap.size + 1) 0 (viewL c) ∧ W.rangeAt g 0 (viewL d) ∧ W.rangeAt (w.heap.size + 1 + 1) 0 (viewL e)) := fun W hb => by
          have := HS.out W (HB8.out.trans (hb.mono z8))
          exact ⟨this.1, this.2.1, range_view ((hb.block _ zg).trans HK8.out), this.2.2⟩
        have z70 := HJ.out.steps
        have stN := HJ.out.stepN
        have EX1 := Lib.hid (fun W (hb : Below w8.heap.size w8 W) => exec_any c j v (by omega) HJ.out.jb HV.out.vb m W (HM.out _ (HB8.out.trans (hb.mono z8))) (HVW.out _ (HB8.out.trans (hb.mono z8))) (HJW.out _ (HB8.out.trans (hb.mono z8))))
        have VR : Hid (VB (restrictF (declF j.inputs) j v)) := vb_restrict HV.out.vb
        have EX2 := Lib.hid (fun W (hb : Below w8.heap.size w8 W) => exec_any (mkC c d) j (restrictF (declF j.inputs) j v) (by omega) HJ.out.jb VR.out m W (HM.out _ (HB8.out.trans (hb.mono z8))) (vat_mk (HV8.out _ hb)) (jat_mk (HJW.out _ (HB8.out.trans (hb.mono z8)))))
        have VH : Hid (VB (hiddenF (declF j.inputs) j (restrictF (declF j.inputs) j v) y)) := by
          have q1 : (v.files.filter fun f => declF j.inputs f.path).length ≤ v.files.length := List.length_filter_le _ _
          have q2 : (v.arts.filter fun o => j.uses.contains o.name).length ≤ v.arts.length := List.length_filter_le _ _
          have q3 : (v.secs.filter fun s => j.secrets.contains s.name).length ≤ v.secs.length := List.length_filter_le _ _
          have k1 := HV.out.files
          have k2 := HV.out.arts
          have k3 := HV.out.secs
          have k4 := HY.out.files
          have k5 := HY.out.arts
          have k6 := HY.out.secs
          exact vb_hidden VR.out HY.out.vb (by show (v.files.filter _).length + _ ≤ _; omega) (by show (v.arts.filter _).length + _ ≤ _; omega) (by show (v.secs.filter _).length + _ ≤ _; omega)
        have HI := Lib.hid (fun W (hb : Below w8.heap.size w8 W) => hidden_any c d e j (restrictF (declF j.inputs) j v) y HJ.out.jb VR.out HY.out.vb W (HJW.out _ (HB8.out.trans (hb.mono z8))) (HV8.out _ hb) (HYW.out _ (HB8.out.trans (hb.mono z8))))
        have EX3 := Lib.hid (fun W a (hb : Below w8.heap.size w8 W) (ha : VAt W.heap.size a (hiddenF (declF j.inputs) j (restrictF (declF j.inputs) j v) y) W) => exec_any (mkC c a) j (hiddenF (declF j.inputs) j (restrictF (declF j.inputs) j v) y) (by omega) HJ.out.jb VH.out m W (HM.out _ (HB8.out.trans (hb.mono z8))) (vat_mk ha) (jat_mk (HJW.out _ (HB8.out.trans (hb.mono z8)))))
        unfold ExPost at EX1 EX2 EX3
        unfold HiPost at HI
        rw [exec_restrict] at EX2
        have HHP := Lib.hid (hermetic_plain (declF j.inputs) j v y)
        have HNE := Lib.hid (fun h => status_not (D := declF j.inputs) (j := j) (v := v) h)
        have HNG := Lib.hid (fun h => status_not (D := declF j.inputs) (j := j) (v := hiddenF (declF j.inputs) j (restrictF (declF j.inputs) j v) y) h)
        have XB1 := Lib.hid (exec_bd (declF j.inputs) j v HV.out.vb (fun s hs => by have := stN s hs; omega))
        have BK1 := Lib.hid (exec_bk (declF j.inputs) j v HV.out.vb)
        generalize execF (declF j.inputs) j v = E at *
        generalize execF (declF j.inputs) j (hiddenF (declF j.inputs) j (restrictF (declF j.inputs) j v) y) = G at *
        clear HVW HYW HJW HS HV HY HJ HV8 HM HK8 VR VH stN
        go_upto_region 4 with fail
        go_cut [8, 9] (PairRel w8 E E)
        case first =>
          clear EX3 HI HHP HNE HNG XB1 BK1
          have HB60 : Hid (Below w8.heap.size w8 w8.drew) := (Below.refl _ _).drew
          refine wp_region_Z (S := fun W' : World => W'.rangeAt w.heap.size 0 (jobL c) ∧ W'.rangeAt (w.heap.size + 1) 0 (viewL c) ∧ W'.rangeAt g 0 (viewL d) ∧ W'.rangeAt (w.heap.size + 1 + 1) 0 (viewL e)) 10 (by kernel_rfl) (HS6.out _ HB60.out) (fun hHeld => ?_)
          obtain ⟨w60, hw60⟩ : ∃ W, w8.drew = W := ⟨_, rfl⟩
          rw [hw60] at HB60 hHeld
          rw [hw60]
          clear hw60
          refine wpAnyZ_takeD (i := 0) (v := .agg (jobL c).toArray) rfl (by kernel_rfl) (by kernel_rfl) (by kernel_rfl) (by kernel_rfl) (fun _ _ _ h => h) (yieldsIf_load_mid (by rfl) tJob (.tmp 3) rfl w.heap.size 0 (by rfl) (jobL c) _ (fun W h => h.1) Tryz.underlying38 rfl (by kernel_rfl)) (by assumption) ?_
          try simp only [Act.put, zA, zB, zC]
          refine wpAnyZ_takeD (i := 1) (v := .agg (viewL c).toArray) rfl (by kernel_rfl) (by kernel_rfl) (by kernel_rfl) (by kernel_rfl) (fun _ _ _ h => h) (yieldsIf_load_mid (by rfl) tView (.tmp 4) rfl (w.heap.size + 1) 0 (by rfl) (viewL c) _ (fun W h => h.2.1) Tryz.underlying45 rfl (by kernel_rfl)) (by assumption) ?_
          try simp only [Act.put, zA, zB, zC]
          refine wpAnyZ_takeD (i := 3) (v := .agg (jobL c).toArray) rfl (by kernel_rfl) (by kernel_rfl) (by kernel_rfl) (by kernel_rfl) (fun _ _ _ h => h) (yieldsIf_load_mid (by rfl) tJob (.tmp 3) rfl w.heap.size 0 (by rfl) (jobL c) _ (fun W h => h.1) Tryz.underlying38 rfl (by kernel_rfl)) (by assumption) ?_
          try simp only [Act.put, zA, zB, zC]
          refine wpAnyZ_takeD (i := 4) (v := .agg (viewL d).toArray) rfl (by kernel_rfl) (by kernel_rfl) (by kernel_rfl) (by kernel_rfl) (fun _ _ _ h => h) (yieldsIf_load_mid (by rfl) tView (.tmp 7) rfl g 0 (by rfl) (viewL d) _ (fun W h => h.2.2.1) Tryz.underlying45 rfl (by kernel_rfl)) (by assumption) ?_
          try simp only [Act.put, zA, zB, zC]
          refine wpAnyZ_three (i := 2) (j := 6) (k := 7) (by kernel_rfl) rfl rfl rfl (fun K hK => ?_) (fun K hK => ?_) (fun K hK => ?_)
          · go_simp
            go_at_call 13
            refine (EX1.out _ HB60.out).mono ?_
            rintro e w61 ⟨u1, rfl, hf, hb⟩
            have hbz := hb.size
            have HF1 := Lib.hid hf.lt
            have HB61 := Lib.hid (HB60.out.trans (hb.mono HB60.out.size))
            clear hf hb
            refine hK.out _ _ (fun _ => HS6.out _ HB61.out) (fun hHeld => ?_)
            replace hHeld := hHeld (by decide)
            clear hK K
            try simp only [Act.put, zA, zB, zC]
            refine wpAnyZ_three (i := 5) (j := 6) (k := 7) (by kernel_rfl) rfl rfl rfl (fun K hK => ?_) (fun K hK => ?_) (fun K hK => ?_)
            · go_simp
              go_at_call 13
              refine (EX2.out _ HB61.out).mono ?_
              rintro e w62 ⟨u2, rfl, hf, hb⟩
              have hbz := hb.size
              replace HF1 := Lib.hid (HF1.out.below hb)
              have HF2 := Lib.hid hf.lt
              have HB62 := Lib.hid (HB61.out.trans (hb.mono HB61.out.size))
              clear hf hb
              refine hK.out _ _ (fun _ => HS6.out _ HB62.out) (fun hHeld => ?_)
              replace hHeld := hHeld (by decide)
              clear hK K
              try simp only [Act.put, zA, zB, zC]
              refine wpAnyZ_two (i := 6) (j := 7) (by kernel_rfl) rfl rfl (fun K hK => ?_) (fun K hK => ?_)
              · go_simp
                obtain ⟨w63, hw⟩ : ∃ W, World.alloc w62 (.cells eff0 tEff) = W := ⟨_, rfl⟩
                rw [hw]
                obtain ⟨hk, hb, hbz⟩ := alloc_here hw
                obtain ⟨p, hp1⟩ : ∃ p, w62.heap.size = p := ⟨_, rfl⟩
                rw [hp1]
                have HK1 := Lib.hid hk
                rw [hp1] at HK1
                have hp1a := Nat.le_of_eq hp1
                have hp1b := Nat.le_of_eq hp1.symm
                replace hbz := Nat.le_of_eq hbz.symm
                clear hp1
                replace HF1 := Lib.hid (HF1.out.below hb)
                replace HF2 := Lib.hid (HF2.out.below hb)
                have HB63 := Lib.hid (HB62.out.trans (hb.mono HB62.out.size))
                clear hk hb hw
                refine hK.out _ _ (fun _ => HS6.out _ HB63.out) (fun hHeld => ?_)
                replace hHeld := hHeld (by decide)
                clear hK K
                try simp only [Act.put, zA, zB, zC]
                refine wpAnyZ_oneL (i := 7) (by kernel_rfl) rfl (fun K hK => ?_)
                go_simp
                obtain ⟨w64, hw⟩ : ∃ W, World.alloc w63 (.cells eff0 tEff) = W := ⟨_, rfl⟩
                rw [hw]
                obtain ⟨hk, hb, hbz⟩ := alloc_here hw
                obtain ⟨q, hp2⟩ : ∃ p, w63.heap.size = p := ⟨_, rfl⟩
                rw [hp2]
                have HK2 := Lib.hid hk
                rw [hp2] at HK2
                have hp2a := Nat.le_of_eq hp2
                have hp2b := Nat.le_of_eq hp2.symm
                replace hbz := Nat.le_of_eq hbz.symm
                clear hp2
                replace HF1 := Lib.hid (HF1.out.below hb)
                replace HK1 := Lib.hid ((hb.block _ (Array.getElem?_eq_some_iff.1 HK1.out).1).trans HK1.out)
                replace HF2 := Lib.hid (HF2.out.below hb)
                have HB64 := Lib.hid (HB63.out.trans (hb.mono HB63.out.size))
                clear hk hb hw
                refine hK.out _ _ (fun _ => HS6.out _ HB64.out) (fun hHeld => ?_)
                replace hHeld := hHeld (by decide)
                clear hK K
                try simp only [Act.put, zA, zB, zC]
                have zb := HB60.out.size
                have hpq : p ≠ q := by omega
                have zp : w8.heap.size ≤ p := by omega
                have zq : w8.heap.size ≤ q := by omega
                replace HF1 := Lib.hid (HF1.out.mono (B' := fun b => b ≠ p ∧ b ≠ q) (fun b hb => ⟨by omega, by omega⟩))
                replace HF2 := Lib.hid (HF2.out.mono (B' := fun b => b ≠ p ∧ b ≠ q) (fun b hb => ⟨by omega, by omega⟩))
                obtain ⟨x1, rfl, n1, o1⟩ := HF1.out.cells
                obtain ⟨x2, rfl, n2, o2⟩ := HF2.out.cells
                refine wpAnyZ_oneL (i := 8) (by kernel_rfl) rfl (fun K hK => ?_)
                rw [if_pos (by rfl)]
                refine wp_store_rowM tEff (.tmp 8) (.tmp 30) rfl p rfl tEff eff0 HK1.out (.agg x1) rfl (by kernel_rfl) n1 o1 ?_
                intro w65 hA
                refine hK.out _ _ (fun _ => HS6.out _ (HB64.out.trans (hA.below zp))) (fun hHeld => ?_)
                replace hHeld := hHeld (by decide)
                clear hK K
                try simp only [Act.put]
                refine wpAnyZ_oneL (i := 9) (by kernel_rfl) rfl (fun K hK => ?_)
                rw [if_pos (by rfl)]
                refine wp_store_rowM tEff (.tmp 9) (.tmp 33) rfl q rfl tEff eff0 ((hA.block q (fun e => hpq e.symm)).trans HK2.out) (.agg x2) rfl (by kernel_rfl) n2 o2 ?_
                intro w66 hB
                have HT := two_effs HF1.out HF2.out (fun _ h => h) (fun _ h => h) hpq hA hB
                have HBF := (HB64.out.trans (hA.below zp)).trans (hB.below zq)
                refine hK.out _ _ (fun _ => HS6.out _ HBF) (fun hHeld => ?_)
                replace hHeld := hHeld (by decide)
                clear hK K
                try simp only [Act.put]
                refine wpAnyZ_done (by kernel_rfl) ?_ _
                clear hHeld
                as_aux_lemma =>
                go_wp2_with fail
                go_meet
                exact ⟨p, q, rfl, rfl, HT.1, HT.2, zp, zq, HBF⟩
              · go_simp
                obtain ⟨w67, hw⟩ : ∃ W, World.alloc w62 (.cells eff0 tEff) = W := ⟨_, rfl⟩
                rw [hw]
                obtain ⟨hk, hb, hbz⟩ := alloc_here hw
                obtain ⟨q, hp2⟩ : ∃ p, w62.heap.size = p := ⟨_, rfl⟩
                rw [hp2]
                have HK2 := Lib.hid hk
                rw [hp2] at HK2
                have hp2a := Nat.le_of_eq hp2
                have hp2b := Nat.le_of_eq hp2.symm
                replace hbz := Nat.le_of_eq hbz.symm
                clear hp2
                replace HF1 := Lib.hid (HF1.out.below hb)
                replace HF2 := Lib.hid (HF2.out.below hb)
                have HB67 := Lib.hid (HB62.out.trans (hb.mono HB62.out.size))
                clear hk hb hw
                refine hK.out _ _ (fun _ => HS6.out _ HB67.out) (fun hHeld => ?_)
                replace hHeld := hHeld (by decide)
                clear hK K
                try simp only [Act.put, zA, zB, zC]
                refine wpAnyZ_oneL (i := 6) (by kernel_rfl) rfl (fun K hK => ?_)
                go_simp
                obtain ⟨w68, hw⟩ : ∃ W, World.alloc w67 (.cells eff0 tEff) = W := ⟨_, rfl⟩
                rw [hw]
                obtain ⟨hk, hb, hbz⟩ := alloc_here hw
                obtain ⟨p, hp1⟩ : ∃ p, w67.heap.size = p := ⟨_, rfl⟩
                rw [hp1]
                have HK1 := Lib.hid hk
                rw [hp1] at HK1
                have hp1a := Nat.le_of_eq hp1
                have hp1b := Nat.le_of_eq hp1.symm
                replace hbz := Nat.le_of_eq hbz.symm
                clear hp1
                replace HF1 := Lib.hid (HF1.out.below hb)
                replace HF2 := Lib.hid (HF2.out.below hb)
                replace HK2 := Lib.hid ((hb.block _ (Array.getElem?_eq_some_iff.1 HK2.out).1).trans HK2.out)
                have HB68 := Lib.hid (HB67.out.trans (hb.mono HB67.out.size))
                clear hk hb hw
                refine hK.out _ _ (fun _ => HS6.out _ HB68.out) (fun hHeld => ?_)
                replace hHeld := hHeld (by decide)
                clear hK K
                try simp only [Act.put, zA, zB, zC]
                have zb := HB60.out.size
                have hpq : p ≠ q := by omega
                have zp : w8.heap.size ≤ p := by omega
                have zq : w8.heap.size ≤ q := by omega
                replace HF1 := Lib.hid (HF1.out.mono (B' := fun b => b ≠ p ∧ b ≠ q) (fun b hb => ⟨by omega, by omega⟩))
                replace HF2 := Lib.hid (HF2.out.mono (B' := fun b => b ≠ p ∧ b ≠ q) (fun b hb => ⟨by omega, by omega⟩))
                obtain ⟨x1, rfl, n1, o1⟩ := HF1.out.cells
                obtain ⟨x2, rfl, n2, o2⟩ := HF2.out.cells
                refine wpAnyZ_oneL (i := 8) (by kernel_rfl) rfl (fun K hK => ?_)
                rw [if_pos (by rfl)]
                refine wp_store_rowM tEff (.tmp 8) (.tmp 30) rfl p rfl tEff eff0 HK1.out (.agg x1) rfl (by kernel_rfl) n1 o1 ?_
                intro w69 hA
                refine hK.out _ _ (fun _ => HS6.out _ (HB68.out.trans (hA.below zp))) (fun hHeld => ?_)
                replace hHeld := hHeld (by decide)
                clear hK K
                try simp only [Act.put]
                refine wpAnyZ_oneL (i := 9) (by kernel_rfl) rfl (fun K hK => ?_)
                rw [if_pos (by rfl)]
                refine wp_store_rowM tEff (.tmp 9) (.tmp 33) rfl q rfl tEff eff0 ((hA.block q (fun e => hpq e.symm)).trans HK2.out) (.agg x2) rfl (by kernel_rfl) n2 o2 ?_
                intro w70 hB
                have HT := two_effs HF1.out HF2.out (fun _ h => h) (fun _ h => h) hpq hA hB
                have HBF := (HB68.out.trans (hA.below zp)).trans (hB.below zq)
                refine hK.out _ _ (fun _ => HS6.out _ HBF) (fun hHeld => ?_)
                replace hHeld := hHeld (by decide)
                clear hK K
                try simp only [Act.put]
                refine wpAnyZ_done (by kernel_rfl) ?_ _
                clear hHeld
                as_aux_lemma =>
                go_wp2_with fail
                go_meet
                exact ⟨p, q, rfl, rfl, HT.1, HT.2, zp, zq, HBF⟩
            · go_simp
              obtain ⟨w71, hw⟩ : ∃ W, World.alloc w61 (.cells eff0 tEff) = W := ⟨_, rfl⟩
              rw [hw]
              obtain ⟨hk, hb, hbz⟩ := alloc_here hw
              obtain ⟨p, hp1⟩ : ∃ p, w61.heap.size = p := ⟨_, rfl⟩
              rw [hp1]
              have HK1 := Lib.hid hk
              rw [hp1] at HK1
              have hp1a := Nat.le_of_eq hp1
              have hp1b := Nat.le_of_eq hp1.symm
              replace hbz := Nat.le_of_eq hbz.symm
              clear hp1
              replace HF1 := Lib.hid (HF1.out.below hb)
              have HB71 := Lib.hid (HB61.out.trans (hb.mono HB61.out.size))
              clear hk hb hw
              refine hK.out _ _ (fun _ => HS6.out _ HB71.out) (fun hHeld => ?_)
              replace hHeld := hHeld (by decide)
              clear hK K
              try simp only [Act.put, zA, zB, zC]
              refine wpAnyZ_two (i := 5) (j := 7) (by kernel_rfl) rfl rfl (fun K hK => ?_) (fun K hK => ?_)
              · go_simp
                go_at_call 13
                refine (EX2.out _ HB71.out).mono ?_
                rintro e w72 ⟨u2, rfl, hf, hb⟩
                have hbz := hb.size
                replace HF1 := Lib.hid (HF1.out.below hb)
                replace HK1 := Lib.hid ((hb.block _ (Array.getElem?_eq_some_iff.1 HK1.out).1).trans HK1.out)
                have HF2 := Lib.hid hf.lt
                have HB72 := Lib.hid (HB71.out.trans (hb.mono HB71.out.size))
                clear hf hb
                refine hK.out _ _ (fun _ => HS6.out _ HB72.out) (fun hHeld => ?_)
                replace hHeld := hHeld (by decide)
                clear hK K
                try simp only [Act.put, zA, zB, zC]
                refine wpAnyZ_oneL (i := 7) (by kernel_rfl) rfl (fun K hK => ?_)
                go_simp
                obtain ⟨w73, hw⟩ : ∃ W, World.alloc w72 (.cells eff0 tEff) = W := ⟨_, rfl⟩
                rw [hw]
                obtain ⟨hk, hb, hbz⟩ := alloc_here hw
                obtain ⟨q, hp2⟩ : ∃ p, w72.heap.size = p := ⟨_, rfl⟩
                rw [hp2]
                have HK2 := Lib.hid hk
                rw [hp2] at HK2
                have hp2a := Nat.le_of_eq hp2
                have hp2b := Nat.le_of_eq hp2.symm
                replace hbz := Nat.le_of_eq hbz.symm
                clear hp2
                replace HF1 := Lib.hid (HF1.out.below hb)
                replace HK1 := Lib.hid ((hb.block _ (Array.getElem?_eq_some_iff.1 HK1.out).1).trans HK1.out)
                replace HF2 := Lib.hid (HF2.out.below hb)
                have HB73 := Lib.hid (HB72.out.trans (hb.mono HB72.out.size))
                clear hk hb hw
                refine hK.out _ _ (fun _ => HS6.out _ HB73.out) (fun hHeld => ?_)
                replace hHeld := hHeld (by decide)
                clear hK K
                try simp only [Act.put, zA, zB, zC]
                have zb := HB60.out.size
                have hpq : p ≠ q := by omega
                have zp : w8.heap.size ≤ p := by omega
                have zq : w8.heap.size ≤ q := by omega
                replace HF1 := Lib.hid (HF1.out.mono (B' := fun b => b ≠ p ∧ b ≠ q) (fun b hb => ⟨by omega, by omega⟩))
                replace HF2 := Lib.hid (HF2.out.mono (B' := fun b => b ≠ p ∧ b ≠ q) (fun b hb => ⟨by omega, by omega⟩))
                obtain ⟨x1, rfl, n1, o1⟩ := HF1.out.cells
                obtain ⟨x2, rfl, n2, o2⟩ := HF2.out.cells
                refine wpAnyZ_oneL (i := 8) (by kernel_rfl) rfl (fun K hK => ?_)
                rw [if_pos (by rfl)]
                refine wp_store_rowM tEff (.tmp 8) (.tmp 30) rfl p rfl tEff eff0 HK1.out (.agg x1) rfl (by kernel_rfl) n1 o1 ?_
                intro w74 hA
                refine hK.out _ _ (fun _ => HS6.out _ (HB73.out.trans (hA.below zp))) (fun hHeld => ?_)
                replace hHeld := hHeld (by decide)
                clear hK K
                try simp only [Act.put]
                refine wpAnyZ_oneL (i := 9) (by kernel_rfl) rfl (fun K hK => ?_)
                rw [if_pos (by rfl)]
                refine wp_store_rowM tEff (.tmp 9) (.tmp 33) rfl q rfl tEff eff0 ((hA.block q (fun e => hpq e.symm)).trans HK2.out) (.agg x2) rfl (by kernel_rfl) n2 o2 ?_
                intro w75 hB
                have HT := two_effs HF1.out HF2.out (fun _ h => h) (fun _ h => h) hpq hA hB
                have HBF := (HB73.out.trans (hA.below zp)).trans (hB.below zq)
                refine hK.out _ _ (fun _ => HS6.out _ HBF) (fun hHeld => ?_)
                replace hHeld := hHeld (by decide)
                clear hK K
                try simp only [Act.put]
                refine wpAnyZ_done (by kernel_rfl) ?_ _
                clear hHeld
                as_aux_lemma =>
                go_wp2_with fail
                go_meet
                exact ⟨p, q, rfl, rfl, HT.1, HT.2, zp, zq, HBF⟩
              · go_simp
                obtain ⟨w76, hw⟩ : ∃ W, World.alloc w71 (.cells eff0 tEff) = W := ⟨_, rfl⟩
                rw [hw]
                obtain ⟨hk, hb, hbz⟩ := alloc_here hw
                obtain ⟨q, hp2⟩ : ∃ p, w71.heap.size = p := ⟨_, rfl⟩
                rw [hp2]
                have HK2 := Lib.hid hk
                rw [hp2] at HK2
                have hp2a := Nat.le_of_eq hp2
                have hp2b := Nat.le_of_eq hp2.symm
                replace hbz := Nat.le_of_eq hbz.symm
                clear hp2
                replace HF1 := Lib.hid (HF1.out.below hb)
                replace HK1 := Lib.hid ((hb.block _ (Array.getElem?_eq_some_iff.1 HK1.out).1).trans HK1.out)
                have HB76 := Lib.hid (HB71.out.trans (hb.mono HB71.out.size))
                clear hk hb hw
                refine hK.out _ _ (fun _ => HS6.out _ HB76.out) (fun hHeld => ?_)
                replace hHeld := hHeld (by decide)
                clear hK K
                try simp only [Act.put, zA, zB, zC]
                refine wpAnyZ_oneL (i := 5) (by kernel_rfl) rfl (fun K hK => ?_)
                go_simp
                go_at_call 13
                refine (EX2.out _ HB76.out).mono ?_
                rintro e w77 ⟨u2, rfl, hf, hb⟩
                have hbz := hb.size
                replace HF1 := Lib.hid (HF1.out.below hb)
                replace HK1 := Lib.hid ((hb.block _ (Array.getElem?_eq_some_iff.1 HK1.out).1).trans HK1.out)
                replace HK2 := Lib.hid ((hb.block _ (Array.getElem?_eq_some_iff.1 HK2.out).1).trans HK2.out)
                have HF2 := Lib.hid hf.lt
                have HB77 := Lib.hid (HB76.out.trans (hb.mono HB76.out.size))
                clear hf hb
                refine hK.out _ _ (fun _ => HS6.out _ HB77.out) (fun hHeld => ?_)
                replace hHeld := hHeld (by decide)
                clear hK K
                try simp only [Act.put, zA, zB, zC]
                have zb := HB60.out.size
                have hpq : p ≠ q := by omega
                have zp : w8.heap.size ≤ p := by omega
                have zq : w8.heap.size ≤ q := by omega
                replace HF1 := Lib.hid (HF1.out.mono (B' := fun b => b ≠ p ∧ b ≠ q) (fun b hb => ⟨by omega, by omega⟩))
                replace HF2 := Lib.hid (HF2.out.mono (B' := fun b => b ≠ p ∧ b ≠ q) (fun b hb => ⟨by omega, by omega⟩))
                obtain ⟨x1, rfl, n1, o1⟩ := HF1.out.cells
                obtain ⟨x2, rfl, n2, o2⟩ := HF2.out.cells
                refine wpAnyZ_oneL (i := 8) (by kernel_rfl) rfl (fun K hK => ?_)
                rw [if_pos (by rfl)]
                refine wp_store_rowM tEff (.tmp 8) (.tmp 30) rfl p rfl tEff eff0 HK1.out (.agg x1) rfl (by kernel_rfl) n1 o1 ?_
                intro w78 hA
                refine hK.out _ _ (fun _ => HS6.out _ (HB77.out.trans (hA.below zp))) (fun hHeld => ?_)
                replace hHeld := hHeld (by decide)
                clear hK K
                try simp only [Act.put]
                refine wpAnyZ_oneL (i := 9) (by kernel_rfl) rfl (fun K hK => ?_)
                rw [if_pos (by rfl)]
                refine wp_store_rowM tEff (.tmp 9) (.tmp 33) rfl q rfl tEff eff0 ((hA.block q (fun e => hpq e.symm)).trans HK2.out) (.agg x2) rfl (by kernel_rfl) n2 o2 ?_
                intro w79 hB
                have HT := two_effs HF1.out HF2.out (fun _ h => h) (fun _ h => h) hpq hA hB
                have HBF := (HB77.out.trans (hA.below zp)).trans (hB.below zq)
                refine hK.out _ _ (fun _ => HS6.out _ HBF) (fun hHeld => ?_)
                replace hHeld := hHeld (by decide)
                clear hK K
                try simp only [Act.put]
                refine wpAnyZ_done (by kernel_rfl) ?_ _
                clear hHeld
                as_aux_lemma =>
                go_wp2_with fail
                go_meet
                exact ⟨p, q, rfl, rfl, HT.1, HT.2, zp, zq, HBF⟩
            · go_simp
              obtain ⟨w80, hw⟩ : ∃ W, World.alloc w61 (.cells eff0 tEff) = W := ⟨_, rfl⟩
              rw [hw]
              obtain ⟨hk, hb, hbz⟩ := alloc_here hw
              obtain ⟨q, hp2⟩ : ∃ p, w61.heap.size = p := ⟨_, rfl⟩
              rw [hp2]
              have HK2 := Lib.hid hk
              rw [hp2] at HK2
              have hp2a := Nat.le_of_eq hp2
              have hp2b := Nat.le_of_eq hp2.symm
              replace hbz := Nat.le_of_eq hbz.symm
              clear hp2
              replace HF1 := Lib.hid (HF1.out.below hb)
              have HB80 := Lib.hid (HB61.out.trans (hb.mono HB61.out.size))
              clear hk hb hw
              refine hK.out _ _ (fun _ => HS6.out _ HB80.out) (fun hHeld => ?_)
              replace hHeld := hHeld (by decide)
              clear hK K
              try simp only [Act.put, zA, zB, zC]
              refine wpAnyZ_two (i := 5) (j := 6) (by kernel_rfl) rfl rfl (fun K hK => ?_) (fun K hK => ?_)
              · go_simp
                go_at_call 13
                refine (EX2.out _ HB80.out).mono ?_
                rintro e w81 ⟨u2, rfl, hf, hb⟩
                have hbz := hb.size
                replace HF1 := Lib.hid (HF1.out.below hb)
                replace HK2 := Lib.hid ((hb.block _ (Array.getElem?_eq_some_iff.1 HK2.out).1).trans HK2.out)
                have HF2 := Lib.hid hf.lt
                have HB81 := Lib.hid (HB80.out.trans (hb.mono HB80.out.size))
                clear hf hb
                refine hK.out _ _ (fun _ => HS6.out _ HB81.out) (fun hHeld => ?_)
                replace hHeld := hHeld (by decide)
                clear hK K
                try simp only [Act.put, zA, zB, zC]
                refine wpAnyZ_oneL (i := 6) (by kernel_rfl) rfl (fun K hK => ?_)
                go_simp
                obtain ⟨w82, hw⟩ : ∃ W, World.alloc w81 (.cells eff0 tEff) = W := ⟨_, rfl⟩
                rw [hw]
                obtain ⟨hk, hb, hbz⟩ := alloc_here hw
                obtain ⟨p, hp1⟩ : ∃ p, w81.heap.size = p := ⟨_, rfl⟩
                rw [hp1]
                have HK1 := Lib.hid hk
                rw [hp1] at HK1
                have hp1a := Nat.le_of_eq hp1
                have hp1b := Nat.le_of_eq hp1.symm
                replace hbz := Nat.le_of_eq hbz.symm
                clear hp1
                replace HF1 := Lib.hid (HF1.out.below hb)
                replace HF2 := Lib.hid (HF2.out.below hb)
                replace HK2 := Lib.hid ((hb.block _ (Array.getElem?_eq_some_iff.1 HK2.out).1).trans HK2.out)
                have HB82 := Lib.hid (HB81.out.trans (hb.mono HB81.out.size))
                clear hk hb hw
                refine hK.out _ _ (fun _ => HS6.out _ HB82.out) (fun hHeld => ?_)
                replace hHeld := hHeld (by decide)
                clear hK K
                try simp only [Act.put, zA, zB, zC]
                have zb := HB60.out.size
                have hpq : p ≠ q := by omega
                have zp : w8.heap.size ≤ p := by omega
                have zq : w8.heap.size ≤ q := by omega
                replace HF1 := Lib.hid (HF1.out.mono (B' := fun b => b ≠ p ∧ b ≠ q) (fun b hb => ⟨by omega, by omega⟩))
                replace HF2 := Lib.hid (HF2.out.mono (B' := fun b => b ≠ p ∧ b ≠ q) (fun b hb => ⟨by omega, by omega⟩))
                obtain ⟨x1, rfl, n1, o1⟩ := HF1.out.cells
                obtain ⟨x2, rfl, n2, o2⟩ := HF2.out.cells
                refine wpAnyZ_oneL (i := 8) (by kernel_rfl) rfl (fun K hK => ?_)
                rw [if_pos (by rfl)]
                refine wp_store_rowM tEff (.tmp 8) (.tmp 30) rfl p rfl tEff eff0 HK1.out (.agg x1) rfl (by kernel_rfl) n1 o1 ?_
                intro w83 hA
                refine hK.out _ _ (fun _ => HS6.out _ (HB82.out.trans (hA.below zp))) (fun hHeld => ?_)
                replace hHeld := hHeld (by decide)
                clear hK K
                try simp only [Act.put]
                refine wpAnyZ_oneL (i := 9) (by kernel_rfl) rfl (fun K hK => ?_)
                rw [if_pos (by rfl)]
                refine wp_store_rowM tEff (.tmp 9) (.tmp 33) rfl q rfl tEff eff0 ((hA.block q (fun e => hpq e.symm)).trans HK2.out) (.agg x2) rfl (by kernel_rfl) n2 o2 ?_
                intro w84 hB
                have HT := two_effs HF1.out HF2.out (fun _ h => h) (fun _ h => h) hpq hA hB
                have HBF := (HB82.out.trans (hA.below zp)).trans (hB.below zq)
                refine hK.out _ _ (fun _ => HS6.out _ HBF) (fun hHeld => ?_)
                replace hHeld := hHeld (by decide)
                clear hK K
                try simp only [Act.put]
                refine wpAnyZ_done (by kernel_rfl) ?_ _
                clear hHeld
                as_aux_lemma =>
                go_wp2_with fail
                go_meet
                exact ⟨p, q, rfl, rfl, HT.1, HT.2, zp, zq, HBF⟩
              · go_simp
                obtain ⟨w85, hw⟩ : ∃ W, World.alloc w80 (.cells eff0 tEff) = W := ⟨_, rfl⟩
                rw [hw]
                obtain ⟨hk, hb, hbz⟩ := alloc_here hw
                obtain ⟨p, hp1⟩ : ∃ p, w80.heap.size = p := ⟨_, rfl⟩
                rw [hp1]
                have HK1 := Lib.hid hk
                rw [hp1] at HK1
                have hp1a := Nat.le_of_eq hp1
                have hp1b := Nat.le_of_eq hp1.symm
                replace hbz := Nat.le_of_eq hbz.symm
                clear hp1
                replace HF1 := Lib.hid (HF1.out.below hb)
                replace HK2 := Lib.hid ((hb.block _ (Array.getElem?_eq_some_iff.1 HK2.out).1).trans HK2.out)
                have HB85 := Lib.hid (HB80.out.trans (hb.mono HB80.out.size))
                clear hk hb hw
                refine hK.out _ _ (fun _ => HS6.out _ HB85.out) (fun hHeld => ?_)
                replace hHeld := hHeld (by decide)
                clear hK K
                try simp only [Act.put, zA, zB, zC]
                refine wpAnyZ_oneL (i := 5) (by kernel_rfl) rfl (fun K hK => ?_)
                go_simp
                go_at_call 13
                refine (EX2.out _ HB85.out).mono ?_
                rintro e w86 ⟨u2, rfl, hf, hb⟩
                have hbz := hb.size
                replace HF1 := Lib.hid (HF1.out.below hb)
                replace HK1 := Lib.hid ((hb.block _ (Array.getElem?_eq_some_iff.1 HK1.out).1).trans HK1.out)
                replace HK2 := Lib.hid ((hb.block _ (Array.getElem?_eq_some_iff.1 HK2.out).1).trans HK2.out)
                have HF2 := Lib.hid hf.lt
                have HB86 := Lib.hid (HB85.out.trans (hb.mono HB85.out.size))
                clear hf hb
                refine hK.out _ _ (fun _ => HS6.out _ HB86.out) (fun hHeld => ?_)
                replace hHeld := hHeld (by decide)
                clear hK K
                try simp only [Act.put, zA, zB, zC]
                have zb := HB60.out.size
                have hpq : p ≠ q := by omega
                have zp : w8.heap.size ≤ p := by omega
                have zq : w8.heap.size ≤ q := by omega
                replace HF1 := Lib.hid (HF1.out.mono (B' := fun b => b ≠ p ∧ b ≠ q) (fun b hb => ⟨by omega, by omega⟩))
                replace HF2 := Lib.hid (HF2.out.mono (B' := fun b => b ≠ p ∧ b ≠ q) (fun b hb => ⟨by omega, by omega⟩))
                obtain ⟨x1, rfl, n1, o1⟩ := HF1.out.cells
                obtain ⟨x2, rfl, n2, o2⟩ := HF2.out.cells
                refine wpAnyZ_oneL (i := 8) (by kernel_rfl) rfl (fun K hK => ?_)
                rw [if_pos (by rfl)]
                refine wp_store_rowM tEff (.tmp 8) (.tmp 30) rfl p rfl tEff eff0 HK1.out (.agg x1) rfl (by kernel_rfl) n1 o1 ?_
                intro w87 hA
                refine hK.out _ _ (fun _ => HS6.out _ (HB86.out.trans (hA.below zp))) (fun hHeld => ?_)
                replace hHeld := hHeld (by decide)
                clear hK K
                try simp only [Act.put]
                refine wpAnyZ_oneL (i := 9) (by kernel_rfl) rfl (fun K hK => ?_)
                rw [if_pos (by rfl)]
                refine wp_store_rowM tEff (.tmp 9) (.tmp 33) rfl q rfl tEff eff0 ((hA.block q (fun e => hpq e.symm)).trans HK2.out) (.agg x2) rfl (by kernel_rfl) n2 o2 ?_
                intro w88 hB
                have HT := two_effs HF1.out HF2.out (fun _ h => h) (fun _ h => h) hpq hA hB
                have HBF := (HB86.out.trans (hA.below zp)).trans (hB.below zq)
                refine hK.out _ _ (fun _ => HS6.out _ HBF) (fun hHeld => ?_)
                replace hHeld := hHeld (by decide)
                clear hK K
                try simp only [Act.put]
                refine wpAnyZ_done (by kernel_rfl) ?_ _
                clear hHeld
                as_aux_lemma =>
                go_wp2_with fail
                go_meet
                exact ⟨p, q, rfl, rfl, HT.1, HT.2, zp, zq, HBF⟩
          · go_simp
            obtain ⟨w89, hw⟩ : ∃ W, World.alloc w60 (.cells eff0 tEff) = W := ⟨_, rfl⟩
            rw [hw]
            obtain ⟨hk, hb, hbz⟩ := alloc_here hw
            obtain ⟨p, hp1⟩ : ∃ p, w60.heap.size = p := ⟨_, rfl⟩
            rw [hp1]
            have HK1 := Lib.hid hk
            rw [hp1] at HK1
            have hp1a := Nat.le_of_eq hp1
            have hp1b := Nat.le_of_eq hp1.symm
            replace hbz := Nat.le_of_eq hbz.symm
            clear hp1
            have HB89 := Lib.hid (HB60.out.trans (hb.mono HB60.out.size))
            clear hk hb hw
            refine hK.out _ _ (fun _ => HS6.out _ HB89.out) (fun hHeld => ?_)
            replace hHeld := hHeld (by decide)
            clear hK K
            try simp only [Act.put, zA, zB, zC]
            refine wpAnyZ_two (i := 2) (j := 7) (by kernel_rfl) rfl rfl (fun K hK => ?_) (fun K hK => ?_)
            · go_simp
              go_at_call 13
              refine (EX1.out _ HB89.out).mono ?_
              rintro e w90 ⟨u1, rfl, hf, hb⟩
              have hbz := hb.size
              replace HK1 := Lib.hid ((hb.block _ (Array.getElem?_eq_some_iff.1 HK1.out).1).trans HK1.out)
              have HF1 := Lib.hid hf.lt
              have HB90 := Lib.hid (HB89.out.trans (hb.mono HB89.out.size))
              clear hf hb
              refine hK.out _ _ (fun _ => HS6.out _ HB90.out) (fun hHeld => ?_)
              replace hHeld := hHeld (by decide)
              clear hK K
              try simp only [Act.put, zA, zB, zC]
              refine wpAnyZ_two (i := 5) (j := 7) (by kernel_rfl) rfl rfl (fun K hK => ?_) (fun K hK => ?_)
              · go_simp
                go_at_call 13
                refine (EX2.out _ HB90.out).mono ?_
                rintro e w91 ⟨u2, rfl, hf, hb⟩
                have hbz := hb.size
                replace HF1 := Lib.hid (HF1.out.below hb)
                replace HK1 := Lib.hid ((hb.block _ (Array.getElem?_eq_some_iff.1 HK1.out).1).trans HK1.out)
                have HF2 := Lib.hid hf.lt
                have HB91 := Lib.hid (HB90.out.trans (hb.mono HB90.out.size))
                clear hf hb
                refine hK.out _ _ (fun _ => HS6.out _ HB91.out) (fun hHeld => ?_)
                replace hHeld := hHeld (by decide)
                clear hK K
                try simp only [Act.put, zA, zB, zC]
                refine wpAnyZ_oneL (i := 7) (by kernel_rfl) rfl (fun K hK => ?_)
                go_simp
                obtain ⟨w92, hw⟩ : ∃ W, World.alloc w91 (.cells eff0 tEff) = W := ⟨_, rfl⟩
                rw [hw]
                obtain ⟨hk, hb, hbz⟩ := alloc_here hw
                obtain ⟨q, hp2⟩ : ∃ p, w91.heap.size = p := ⟨_, rfl⟩
                rw [hp2]
                have HK2 := Lib.hid hk
                rw [hp2] at HK2
                have hp2a := Nat.le_of_eq hp2
                have hp2b := Nat.le_of_eq hp2.symm
                replace hbz := Nat.le_of_eq hbz.symm
                clear hp2
                replace HF1 := Lib.hid (HF1.out.below hb)
                replace HK1 := Lib.hid ((hb.block _ (Array.getElem?_eq_some_iff.1 HK1.out).1).trans HK1.out)
                replace HF2 := Lib.hid (HF2.out.below hb)
                have HB92 := Lib.hid (HB91.out.trans (hb.mono HB91.out.size))
                clear hk hb hw
                refine hK.out _ _ (fun _ => HS6.out _ HB92.out) (fun hHeld => ?_)
                replace hHeld := hHeld (by decide)
                clear hK K
                try simp only [Act.put, zA, zB, zC]
                have zb := HB60.out.size
                have hpq : p ≠ q := by omega
                have zp : w8.heap.size ≤ p := by omega
                have zq : w8.heap.size ≤ q := by omega
                replace HF1 := Lib.hid (HF1.out.mono (B' := fun b => b ≠ p ∧ b ≠ q) (fun b hb => ⟨by omega, by omega⟩))
                replace HF2 := Lib.hid (HF2.out.mono (B' := fun b => b ≠ p ∧ b ≠ q) (fun b hb => ⟨by omega, by omega⟩))
                obtain ⟨x1, rfl, n1, o1⟩ := HF1.out.cells
                obtain ⟨x2, rfl, n2, o2⟩ := HF2.out.cells
                refine wpAnyZ_oneL (i := 8) (by kernel_rfl) rfl (fun K hK => ?_)
                rw [if_pos (by rfl)]
                refine wp_store_rowM tEff (.tmp 8) (.tmp 30) rfl p rfl tEff eff0 HK1.out (.agg x1) rfl (by kernel_rfl) n1 o1 ?_
                intro w93 hA
                refine hK.out _ _ (fun _ => HS6.out _ (HB92.out.trans (hA.below zp))) (fun hHeld => ?_)
                replace hHeld := hHeld (by decide)
                clear hK K
                try simp only [Act.put]
                refine wpAnyZ_oneL (i := 9) (by kernel_rfl) rfl (fun K hK => ?_)
                rw [if_pos (by rfl)]
                refine wp_store_rowM tEff (.tmp 9) (.tmp 33) rfl q rfl tEff eff0 ((hA.block q (fun e => hpq e.symm)).trans HK2.out) (.agg x2) rfl (by kernel_rfl) n2 o2 ?_
                intro w94 hB
                have HT := two_effs HF1.out HF2.out (fun _ h => h) (fun _ h => h) hpq hA hB
                have HBF := (HB92.out.trans (hA.below zp)).trans (hB.below zq)
                refine hK.out _ _ (fun _ => HS6.out _ HBF) (fun hHeld => ?_)
                replace hHeld := hHeld (by decide)
                clear hK K
                try simp only [Act.put]
                refine wpAnyZ_done (by kernel_rfl) ?_ _
                clear hHeld
                as_aux_lemma =>
                go_wp2_with fail
                go_meet
                exact ⟨p, q, rfl, rfl, HT.1, HT.2, zp, zq, HBF⟩
              · go_simp
                obtain ⟨w95, hw⟩ : ∃ W, World.alloc w90 (.cells eff0 tEff) = W := ⟨_, rfl⟩
                rw [hw]
                obtain ⟨hk, hb, hbz⟩ := alloc_here hw
                obtain ⟨q, hp2⟩ : ∃ p, w90.heap.size = p := ⟨_, rfl⟩
                rw [hp2]
                have HK2 := Lib.hid hk
                rw [hp2] at HK2
                have hp2a := Nat.le_of_eq hp2
                have hp2b := Nat.le_of_eq hp2.symm
                replace hbz := Nat.le_of_eq hbz.symm
                clear hp2
                replace HF1 := Lib.hid (HF1.out.below hb)
                replace HK1 := Lib.hid ((hb.block _ (Array.getElem?_eq_some_iff.1 HK1.out).1).trans HK1.out)
                have HB95 := Lib.hid (HB90.out.trans (hb.mono HB90.out.size))
                clear hk hb hw
                refine hK.out _ _ (fun _ => HS6.out _ HB95.out) (fun hHeld => ?_)
                replace hHeld := hHeld (by decide)
                clear hK K
                try simp only [Act.put, zA, zB, zC]
                refine wpAnyZ_oneL (i := 5) (by kernel_rfl) rfl (fun K hK => ?_)
                go_simp
                go_at_call 13
                refine (EX2.out _ HB95.out).mono ?_
                rintro e w96 ⟨u2, rfl, hf, hb⟩
                have hbz := hb.size
                replace HF1 := Lib.hid (HF1.out.below hb)
                replace HK1 := Lib.hid ((hb.block _ (Array.getElem?_eq_some_iff.1 HK1.out).1).trans HK1.out)
                replace HK2 := Lib.hid ((hb.block _ (Array.getElem?_eq_some_iff.1 HK2.out).1).trans HK2.out)
                have HF2 := Lib.hid hf.lt
                have HB96 := Lib.hid (HB95.out.trans (hb.mono HB95.out.size))
                clear hf hb
                refine hK.out _ _ (fun _ => HS6.out _ HB96.out) (fun hHeld => ?_)
                replace hHeld := hHeld (by decide)
                clear hK K
                try simp only [Act.put, zA, zB, zC]
                have zb := HB60.out.size
                have hpq : p ≠ q := by omega
                have zp : w8.heap.size ≤ p := by omega
                have zq : w8.heap.size ≤ q := by omega
                replace HF1 := Lib.hid (HF1.out.mono (B' := fun b => b ≠ p ∧ b ≠ q) (fun b hb => ⟨by omega, by omega⟩))
                replace HF2 := Lib.hid (HF2.out.mono (B' := fun b => b ≠ p ∧ b ≠ q) (fun b hb => ⟨by omega, by omega⟩))
                obtain ⟨x1, rfl, n1, o1⟩ := HF1.out.cells
                obtain ⟨x2, rfl, n2, o2⟩ := HF2.out.cells
                refine wpAnyZ_oneL (i := 8) (by kernel_rfl) rfl (fun K hK => ?_)
                rw [if_pos (by rfl)]
                refine wp_store_rowM tEff (.tmp 8) (.tmp 30) rfl p rfl tEff eff0 HK1.out (.agg x1) rfl (by kernel_rfl) n1 o1 ?_
                intro w97 hA
                refine hK.out _ _ (fun _ => HS6.out _ (HB96.out.trans (hA.below zp))) (fun hHeld => ?_)
                replace hHeld := hHeld (by decide)
                clear hK K
                try simp only [Act.put]
                refine wpAnyZ_oneL (i := 9) (by kernel_rfl) rfl (fun K hK => ?_)
                rw [if_pos (by rfl)]
                refine wp_store_rowM tEff (.tmp 9) (.tmp 33) rfl q rfl tEff eff0 ((hA.block q (fun e => hpq e.symm)).trans HK2.out) (.agg x2) rfl (by kernel_rfl) n2 o2 ?_
                intro w98 hB
                have HT := two_effs HF1.out HF2.out (fun _ h => h) (fun _ h => h) hpq hA hB
                have HBF := (HB96.out.trans (hA.below zp)).trans (hB.below zq)
                refine hK.out _ _ (fun _ => HS6.out _ HBF) (fun hHeld => ?_)
                replace hHeld := hHeld (by decide)
                clear hK K
                try simp only [Act.put]
                refine wpAnyZ_done (by kernel_rfl) ?_ _
                clear hHeld
                as_aux_lemma =>
                go_wp2_with fail
                go_meet
                exact ⟨p, q, rfl, rfl, HT.1, HT.2, zp, zq, HBF⟩
            · go_simp
              obtain ⟨w99, hw⟩ : ∃ W, World.alloc w89 (.cells eff0 tEff) = W := ⟨_, rfl⟩
              rw [hw]
              obtain ⟨hk, hb, hbz⟩ := alloc_here hw
              obtain ⟨q, hp2⟩ : ∃ p, w89.heap.size = p := ⟨_, rfl⟩
              rw [hp2]
              have HK2 := Lib.hid hk
              rw [hp2] at HK2
              have hp2a := Nat.le_of_eq hp2
              have hp2b := Nat.le_of_eq hp2.symm
              replace hbz := Nat.le_of_eq hbz.symm
              clear hp2
              replace HK1 := Lib.hid ((hb.block _ (Array.getElem?_eq_some_iff.1 HK1.out).1).trans HK1.out)
              have HB99 := Lib.hid (HB89.out.trans (hb.mono HB89.out.size))
              clear hk hb hw
              refine hK.out _ _ (fun _ => HS6.out _ HB99.out) (fun hHeld => ?_)
              replace hHeld := hHeld (by decide)
              clear hK K
              try simp only [Act.put, zA, zB, zC]
              refine wpAnyZ_oneL (i := 2) (by kernel_rfl) rfl (fun K hK => ?_)
              go_simp
              go_at_call 13
              refine (EX1.out _ HB99.out).mono ?_
              rintro e w100 ⟨u1, rfl, hf, hb⟩
              have hbz := hb.size
              replace HK1 := Lib.hid ((hb.block _ (Array.getElem?_eq_some_iff.1 HK1.out).1).trans HK1.out)
              replace HK2 := Lib.hid ((hb.block _ (Array.getElem?_eq_some_iff.1 HK2.out).1).trans HK2.out)
              have HF1 := Lib.hid hf.lt
              have HB100 := Lib.hid (HB99.out.trans (hb.mono HB99.out.size))
              clear hf hb
              refine hK.out _ _ (fun _ => HS6.out _ HB100.out) (fun hHeld => ?_)
              replace hHeld := hHeld (by decide)
              clear hK K
              try simp only [Act.put, zA, zB, zC]
              refine wpAnyZ_oneL (i := 5) (by kernel_rfl) rfl (fun K hK => ?_)
              go_simp
              go_at_call 13
              refine (EX2.out _ HB100.out).mono ?_
              rintro e w101 ⟨u2, rfl, hf, hb⟩
              have hbz := hb.size
              replace HF1 := Lib.hid (HF1.out.below hb)
              replace HK1 := Lib.hid ((hb.block _ (Array.getElem?_eq_some_iff.1 HK1.out).1).trans HK1.out)
              replace HK2 := Lib.hid ((hb.block _ (Array.getElem?_eq_some_iff.1 HK2.out).1).trans HK2.out)
              have HF2 := Lib.hid hf.lt
              have HB101 := Lib.hid (HB100.out.trans (hb.mono HB100.out.size))
              clear hf hb
              refine hK.out _ _ (fun _ => HS6.out _ HB101.out) (fun hHeld => ?_)
              replace hHeld := hHeld (by decide)
              clear hK K
              try simp only [Act.put, zA, zB, zC]
              have zb := HB60.out.size
              have hpq : p ≠ q := by omega
              have zp : w8.heap.size ≤ p := by omega
              have zq : w8.heap.size ≤ q := by omega
              replace HF1 := Lib.hid (HF1.out.mono (B' := fun b => b ≠ p ∧ b ≠ q) (fun b hb => ⟨by omega, by omega⟩))
              replace HF2 := Lib.hid (HF2.out.mono (B' := fun b => b ≠ p ∧ b ≠ q) (fun b hb => ⟨by omega, by omega⟩))
              obtain ⟨x1, rfl, n1, o1⟩ := HF1.out.cells
              obtain ⟨x2, rfl, n2, o2⟩ := HF2.out.cells
              refine wpAnyZ_oneL (i := 8) (by kernel_rfl) rfl (fun K hK => ?_)
              rw [if_pos (by rfl)]
              refine wp_store_rowM tEff (.tmp 8) (.tmp 30) rfl p rfl tEff eff0 HK1.out (.agg x1) rfl (by kernel_rfl) n1 o1 ?_
              intro w102 hA
              refine hK.out _ _ (fun _ => HS6.out _ (HB101.out.trans (hA.below zp))) (fun hHeld => ?_)
              replace hHeld := hHeld (by decide)
              clear hK K
              try simp only [Act.put]
              refine wpAnyZ_oneL (i := 9) (by kernel_rfl) rfl (fun K hK => ?_)
              rw [if_pos (by rfl)]
              refine wp_store_rowM tEff (.tmp 9) (.tmp 33) rfl q rfl tEff eff0 ((hA.block q (fun e => hpq e.symm)).trans HK2.out) (.agg x2) rfl (by kernel_rfl) n2 o2 ?_
              intro w103 hB
              have HT := two_effs HF1.out HF2.out (fun _ h => h) (fun _ h => h) hpq hA hB
              have HBF := (HB101.out.trans (hA.below zp)).trans (hB.below zq)
              refine hK.out _ _ (fun _ => HS6.out _ HBF) (fun hHeld => ?_)
              replace hHeld := hHeld (by decide)
              clear hK K
              try simp only [Act.put]
              refine wpAnyZ_done (by kernel_rfl) ?_ _
              clear hHeld
              as_aux_lemma =>
              go_wp2_with fail
              go_meet
              exact ⟨p, q, rfl, rfl, HT.1, HT.2, zp, zq, HBF⟩
          · go_simp
            obtain ⟨w104, hw⟩ : ∃ W, World.alloc w60 (.cells eff0 tEff) = W := ⟨_, rfl⟩
            rw [hw]
            obtain ⟨hk, hb, hbz⟩ := alloc_here hw
            obtain ⟨q, hp2⟩ : ∃ p, w60.heap.size = p := ⟨_, rfl⟩
            rw [hp2]
            have HK2 := Lib.hid hk
            rw [hp2] at HK2
            have hp2a := Nat.le_of_eq hp2
            have hp2b := Nat.le_of_eq hp2.symm
            replace hbz := Nat.le_of_eq hbz.symm
            clear hp2
            have HB104 := Lib.hid (HB60.out.trans (hb.mono HB60.out.size))
            clear hk hb hw
            refine hK.out _ _ (fun _ => HS6.out _ HB104.out) (fun hHeld => ?_)
            replace hHeld := hHeld (by decide)
            clear hK K
            try simp only [Act.put, zA, zB, zC]
            refine wpAnyZ_two (i := 2) (j := 6) (by kernel_rfl) rfl rfl (fun K hK => ?_) (fun K hK => ?_)
            · go_simp
              go_at_call 13
              refine (EX1.out _ HB104.out).mono ?_
              rintro e w105 ⟨u1, rfl, hf, hb⟩
              have hbz := hb.size
              replace HK2 := Lib.hid ((hb.block _ (Array.getElem?_eq_some_iff.1 HK2.out).1).trans HK2.out)
              have HF1 := Lib.hid hf.lt
              have HB105 := Lib.hid (HB104.out.trans (hb.mono HB104.out.size))
              clear hf hb
              refine hK.out _ _ (fun _ => HS6.out _ HB105.out) (fun hHeld => ?_)
              replace hHeld := hHeld (by decide)
              clear hK K
              try simp only [Act.put, zA, zB, zC]
              refine wpAnyZ_two (i := 5) (j := 6) (by kernel_rfl) rfl rfl (fun K hK => ?_) (fun K hK => ?_)
              · go_simp
                go_at_call 13
                refine (EX2.out _ HB105.out).mono ?_
                rintro e w106 ⟨u2, rfl, hf, hb⟩
                have hbz := hb.size
                replace HF1 := Lib.hid (HF1.out.below hb)
                replace HK2 := Lib.hid ((hb.block _ (Array.getElem?_eq_some_iff.1 HK2.out).1).trans HK2.out)
                have HF2 := Lib.hid hf.lt
                have HB106 := Lib.hid (HB105.out.trans (hb.mono HB105.out.size))
                clear hf hb
                refine hK.out _ _ (fun _ => HS6.out _ HB106.out) (fun hHeld => ?_)
                replace hHeld := hHeld (by decide)
                clear hK K
                try simp only [Act.put, zA, zB, zC]
                refine wpAnyZ_oneL (i := 6) (by kernel_rfl) rfl (fun K hK => ?_)
                go_simp
                obtain ⟨w107, hw⟩ : ∃ W, World.alloc w106 (.cells eff0 tEff) = W := ⟨_, rfl⟩
                rw [hw]
                obtain ⟨hk, hb, hbz⟩ := alloc_here hw
                obtain ⟨p, hp1⟩ : ∃ p, w106.heap.size = p := ⟨_, rfl⟩
                rw [hp1]
                have HK1 := Lib.hid hk
                rw [hp1] at HK1
                have hp1a := Nat.le_of_eq hp1
                have hp1b := Nat.le_of_eq hp1.symm
                replace hbz := Nat.le_of_eq hbz.symm
                clear hp1
                replace HF1 := Lib.hid (HF1.out.below hb)
                replace HF2 := Lib.hid (HF2.out.below hb)
                replace HK2 := Lib.hid ((hb.block _ (Array.getElem?_eq_some_iff.1 HK2.out).1).trans HK2.out)
                have HB107 := Lib.hid (HB106.out.trans (hb.mono HB106.out.size))
                clear hk hb hw
                refine hK.out _ _ (fun _ => HS6.out _ HB107.out) (fun hHeld => ?_)
                replace hHeld := hHeld (by decide)
                clear hK K
                try simp only [Act.put, zA, zB, zC]
                have zb := HB60.out.size
                have hpq : p ≠ q := by omega
                have zp : w8.heap.size ≤ p := by omega
                have zq : w8.heap.size ≤ q := by omega
                replace HF1 := Lib.hid (HF1.out.mono (B' := fun b => b ≠ p ∧ b ≠ q) (fun b hb => ⟨by omega, by omega⟩))
                replace HF2 := Lib.hid (HF2.out.mono (B' := fun b => b ≠ p ∧ b ≠ q) (fun b hb => ⟨by omega, by omega⟩))
                obtain ⟨x1, rfl, n1, o1⟩ := HF1.out.cells
                obtain ⟨x2, rfl, n2, o2⟩ := HF2.out.cells
                refine wpAnyZ_oneL (i := 8) (by kernel_rfl) rfl (fun K hK => ?_)
                rw [if_pos (by rfl)]
                refine wp_store_rowM tEff (.tmp 8) (.tmp 30) rfl p rfl tEff eff0 HK1.out (.agg x1) rfl (by kernel_rfl) n1 o1 ?_
                intro w108 hA
                refine hK.out _ _ (fun _ => HS6.out _ (HB107.out.trans (hA.below zp))) (fun hHeld => ?_)
                replace hHeld := hHeld (by decide)
                clear hK K
                try simp only [Act.put]
                refine wpAnyZ_oneL (i := 9) (by kernel_rfl) rfl (fun K hK => ?_)
                rw [if_pos (by rfl)]
                refine wp_store_rowM tEff (.tmp 9) (.tmp 33) rfl q rfl tEff eff0 ((hA.block q (fun e => hpq e.symm)).trans HK2.out) (.agg x2) rfl (by kernel_rfl) n2 o2 ?_
                intro w109 hB
                have HT := two_effs HF1.out HF2.out (fun _ h => h) (fun _ h => h) hpq hA hB
                have HBF := (HB107.out.trans (hA.below zp)).trans (hB.below zq)
                refine hK.out _ _ (fun _ => HS6.out _ HBF) (fun hHeld => ?_)
                replace hHeld := hHeld (by decide)
                clear hK K
                try simp only [Act.put]
                refine wpAnyZ_done (by kernel_rfl) ?_ _
                clear hHeld
                as_aux_lemma =>
                go_wp2_with fail
                go_meet
                exact ⟨p, q, rfl, rfl, HT.1, HT.2, zp, zq, HBF⟩
              · go_simp
                obtain ⟨w110, hw⟩ : ∃ W, World.alloc w105 (.cells eff0 tEff) = W := ⟨_, rfl⟩
                rw [hw]
                obtain ⟨hk, hb, hbz⟩ := alloc_here hw
                obtain ⟨p, hp1⟩ : ∃ p, w105.heap.size = p := ⟨_, rfl⟩
                rw [hp1]
                have HK1 := Lib.hid hk
                rw [hp1] at HK1
                have hp1a := Nat.le_of_eq hp1
                have hp1b := Nat.le_of_eq hp1.symm
                replace hbz := Nat.le_of_eq hbz.symm
                clear hp1
                replace HF1 := Lib.hid (HF1.out.below hb)
                replace HK2 := Lib.hid ((hb.block _ (Array.getElem?_eq_some_iff.1 HK2.out).1).trans HK2.out)
                have HB110 := Lib.hid (HB105.out.trans (hb.mono HB105.out.size))
                clear hk hb hw
                refine hK.out _ _ (fun _ => HS6.out _ HB110.out) (fun hHeld => ?_)
                replace hHeld := hHeld (by decide)
                clear hK K
                try simp only [Act.put, zA, zB, zC]
                refine wpAnyZ_oneL (i := 5) (by kernel_rfl) rfl (fun K hK => ?_)
                go_simp
                go_at_call 13
                refine (EX2.out _ HB110.out).mono ?_
                rintro e w111 ⟨u2, rfl, hf, hb⟩
                have hbz := hb.size
                replace HF1 := Lib.hid (HF1.out.below hb)
                replace HK1 := Lib.hid ((hb.block _ (Array.getElem?_eq_some_iff.1 HK1.out).1).trans HK1.out)
                replace HK2 := Lib.hid ((hb.block _ (Array.getElem?_eq_some_iff.1 HK2.out).1).trans HK2.out)
                have HF2 := Lib.hid hf.lt
                have HB111 := Lib.hid (HB110.out.trans (hb.mono HB110.out.size))
                clear hf hb
                refine hK.out _ _ (fun _ => HS6.out _ HB111.out) (fun hHeld => ?_)
                replace hHeld := hHeld (by decide)
                clear hK K
                try simp only [Act.put, zA, zB, zC]
                have zb := HB60.out.size
                have hpq : p ≠ q := by omega
                have zp : w8.heap.size ≤ p := by omega
                have zq : w8.heap.size ≤ q := by omega
                replace HF1 := Lib.hid (HF1.out.mono (B' := fun b => b ≠ p ∧ b ≠ q) (fun b hb => ⟨by omega, by omega⟩))
                replace HF2 := Lib.hid (HF2.out.mono (B' := fun b => b ≠ p ∧ b ≠ q) (fun b hb => ⟨by omega, by omega⟩))
                obtain ⟨x1, rfl, n1, o1⟩ := HF1.out.cells
                obtain ⟨x2, rfl, n2, o2⟩ := HF2.out.cells
                refine wpAnyZ_oneL (i := 8) (by kernel_rfl) rfl (fun K hK => ?_)
                rw [if_pos (by rfl)]
                refine wp_store_rowM tEff (.tmp 8) (.tmp 30) rfl p rfl tEff eff0 HK1.out (.agg x1) rfl (by kernel_rfl) n1 o1 ?_
                intro w112 hA
                refine hK.out _ _ (fun _ => HS6.out _ (HB111.out.trans (hA.below zp))) (fun hHeld => ?_)
                replace hHeld := hHeld (by decide)
                clear hK K
                try simp only [Act.put]
                refine wpAnyZ_oneL (i := 9) (by kernel_rfl) rfl (fun K hK => ?_)
                rw [if_pos (by rfl)]
                refine wp_store_rowM tEff (.tmp 9) (.tmp 33) rfl q rfl tEff eff0 ((hA.block q (fun e => hpq e.symm)).trans HK2.out) (.agg x2) rfl (by kernel_rfl) n2 o2 ?_
                intro w113 hB
                have HT := two_effs HF1.out HF2.out (fun _ h => h) (fun _ h => h) hpq hA hB
                have HBF := (HB111.out.trans (hA.below zp)).trans (hB.below zq)
                refine hK.out _ _ (fun _ => HS6.out _ HBF) (fun hHeld => ?_)
                replace hHeld := hHeld (by decide)
                clear hK K
                try simp only [Act.put]
                refine wpAnyZ_done (by kernel_rfl) ?_ _
                clear hHeld
                as_aux_lemma =>
                go_wp2_with fail
                go_meet
                exact ⟨p, q, rfl, rfl, HT.1, HT.2, zp, zq, HBF⟩
            · go_simp
              obtain ⟨w114, hw⟩ : ∃ W, World.alloc w104 (.cells eff0 tEff) = W := ⟨_, rfl⟩
              rw [hw]
              obtain ⟨hk, hb, hbz⟩ := alloc_here hw
              obtain ⟨p, hp1⟩ : ∃ p, w104.heap.size = p := ⟨_, rfl⟩
              rw [hp1]
              have HK1 := Lib.hid hk
              rw [hp1] at HK1
              have hp1a := Nat.le_of_eq hp1
              have hp1b := Nat.le_of_eq hp1.symm
              replace hbz := Nat.le_of_eq hbz.symm
              clear hp1
              replace HK2 := Lib.hid ((hb.block _ (Array.getElem?_eq_some_iff.1 HK2.out).1).trans HK2.out)
              have HB114 := Lib.hid (HB104.out.trans (hb.mono HB104.out.size))
              clear hk hb hw
              refine hK.out _ _ (fun _ => HS6.out _ HB114.out) (fun hHeld => ?_)
              replace hHeld := hHeld (by decide)
              clear hK K
              try simp only [Act.put, zA, zB, zC]
              refine wpAnyZ_oneL (i := 2) (by kernel_rfl) rfl (fun K hK => ?_)
              go_simp
              go_at_call 13
              refine (EX1.out _ HB114.out).mono ?_
              rintro e w115 ⟨u1, rfl, hf, hb⟩
              have hbz := hb.size
              replace HK1 := Lib.hid ((hb.block _ (Array.getElem?_eq_some_iff.1 HK1.out).1).trans HK1.out)
              replace HK2 := Lib.hid ((hb.block _ (Array.getElem?_eq_some_iff.1 HK2.out).1).trans HK2.out)
              have HF1 := Lib.hid hf.lt
              have HB115 := Lib.hid (HB114.out.trans (hb.mono HB114.out.size))
              clear hf hb
              refine hK.out _ _ (fun _ => HS6.out _ HB115.out) (fun hHeld => ?_)
              replace hHeld := hHeld (by decide)
              clear hK K
              try simp only [Act.put, zA, zB, zC]
              refine wpAnyZ_oneL (i := 5) (by kernel_rfl) rfl (fun K hK => ?_)
              go_simp
              go_at_call 13
              refine (EX2.out _ HB115.out).mono ?_
              rintro e w116 ⟨u2, rfl, hf, hb⟩
              have hbz := hb.size
              replace HF1 := Lib.hid (HF1.out.below hb)
              replace HK1 := Lib.hid ((hb.block _ (Array.getElem?_eq_some_iff.1 HK1.out).1).trans HK1.out)
              replace HK2 := Lib.hid ((hb.block _ (Array.getElem?_eq_some_iff.1 HK2.out).1).trans HK2.out)
              have HF2 := Lib.hid hf.lt
              have HB116 := Lib.hid (HB115.out.trans (hb.mono HB115.out.size))
              clear hf hb
              refine hK.out _ _ (fun _ => HS6.out _ HB116.out) (fun hHeld => ?_)
              replace hHeld := hHeld (by decide)
              clear hK K
              try simp only [Act.put, zA, zB, zC]
              have zb := HB60.out.size
              have hpq : p ≠ q := by omega
              have zp : w8.heap.size ≤ p := by omega
              have zq : w8.heap.size ≤ q := by omega
              replace HF1 := Lib.hid (HF1.out.mono (B' := fun b => b ≠ p ∧ b ≠ q) (fun b hb => ⟨by omega, by omega⟩))
              replace HF2 := Lib.hid (HF2.out.mono (B' := fun b => b ≠ p ∧ b ≠ q) (fun b hb => ⟨by omega, by omega⟩))
              obtain ⟨x1, rfl, n1, o1⟩ := HF1.out.cells
              obtain ⟨x2, rfl, n2, o2⟩ := HF2.out.cells
              refine wpAnyZ_oneL (i := 8) (by kernel_rfl) rfl (fun K hK => ?_)
              rw [if_pos (by rfl)]
              refine wp_store_rowM tEff (.tmp 8) (.tmp 30) rfl p rfl tEff eff0 HK1.out (.agg x1) rfl (by kernel_rfl) n1 o1 ?_
              intro w117 hA
              refine hK.out _ _ (fun _ => HS6.out _ (HB116.out.trans (hA.below zp))) (fun hHeld => ?_)
              replace hHeld := hHeld (by decide)
              clear hK K
              try simp only [Act.put]
              refine wpAnyZ_oneL (i := 9) (by kernel_rfl) rfl (fun K hK => ?_)
              rw [if_pos (by rfl)]
              refine wp_store_rowM tEff (.tmp 9) (.tmp 33) rfl q rfl tEff eff0 ((hA.block q (fun e => hpq e.symm)).trans HK2.out) (.agg x2) rfl (by kernel_rfl) n2 o2 ?_
              intro w118 hB
              have HT := two_effs HF1.out HF2.out (fun _ h => h) (fun _ h => h) hpq hA hB
              have HBF := (HB116.out.trans (hA.below zp)).trans (hB.below zq)
              refine hK.out _ _ (fun _ => HS6.out _ HBF) (fun hHeld => ?_)
              replace hHeld := hHeld (by decide)
              clear hK K
              try simp only [Act.put]
              refine wpAnyZ_done (by kernel_rfl) ?_ _
              clear hHeld
              as_aux_lemma =>
              go_wp2_with fail
              go_meet
              exact ⟨p, q, rfl, rfl, HT.1, HT.2, zp, zq, HBF⟩
        case rest =>
          obtain ⟨p, q, rfl, rfl, he1, he2, zp, zq, hbc⟩ := hcut
          obtain ⟨wv, rfl⟩ : ∃ x, x = wc := ⟨_, rfl⟩
          have HE1 := Lib.hid he1
          have HE2 := Lib.hid he2
          have HBC := Lib.hid hbc
          clear he1 he2 hbc EX1 EX2
          go_upto_region 5 with fail
          go_cut [10] (OneRel wv G)
          case first =>
            clear HE1 HE2 HHP HNE HNG XB1 BK1
            have HB200 : Hid (Below w8.heap.size w8 wv.drew) := HBC.out.drew
            have HC200 : Hid (Below wv.heap.size wv wv.drew) := (Below.refl _ _).drew
            refine wp_region_Z (S := fun W' : World => W'.rangeAt w.heap.size 0 (jobL c) ∧ W'.rangeAt (w.heap.size + 1) 0 (viewL c) ∧ W'.rangeAt g 0 (viewL d) ∧ W'.rangeAt (w.heap.size + 1 + 1) 0 (viewL e)) 8 (by kernel_rfl) (HS6.out _ HB200.out) (fun hHeld => ?_)
            obtain ⟨w200, hw200⟩ : ∃ W, wv.drew = W := ⟨_, rfl⟩
            rw [hw200] at HB200 HC200 hHeld
            rw [hw200]
            clear hw200
            refine wpAnyZ_takeD (i := 0) (v := .agg (jobL c).toArray) rfl (by kernel_rfl) (by kernel_rfl) (by kernel_rfl) (by kernel_rfl) (fun _ _ _ h => h) (yieldsIf_load_mid (by rfl) tJob (.tmp 3) rfl w.heap.size 0 (by rfl) (jobL c) _ (fun W h => h.1) Tryz.underlying38 rfl (by kernel_rfl)) (by assumption) ?_
            try simp only [Act.put, zA, zB, zC]
            refine wpAnyZ_takeD (i := 1) (v := .agg (jobL c).toArray) rfl (by kernel_rfl) (by kernel_rfl) (by kernel_rfl) (by kernel_rfl) (fun _ _ _ h => h) (yieldsIf_load_mid (by rfl) tJob (.tmp 3) rfl w.heap.size 0 (by rfl) (jobL c) _ (fun W h => h.1) Tryz.underlying38 rfl (by kernel_rfl)) (by assumption) ?_
            try simp only [Act.put, zA, zB, zC]
            refine wpAnyZ_takeD (i := 2) (v := .agg (viewL d).toArray) rfl (by kernel_rfl) (by kernel_rfl) (by kernel_rfl) (by kernel_rfl) (fun _ _ _ h => h) (yieldsIf_load_mid (by rfl) tView (.tmp 7) rfl g 0 (by rfl) (viewL d) _ (fun W h => h.2.2.1) Tryz.underlying45 rfl (by kernel_rfl)) (by assumption) ?_
            try simp only [Act.put, zA, zB, zC]
            refine wpAnyZ_takeD (i := 3) (v := .agg (viewL e).toArray) rfl (by kernel_rfl) (by kernel_rfl) (by kernel_rfl) (by kernel_rfl) (fun _ _ _ h => h) (yieldsIf_load_mid (by rfl) tView (.tmp 5) rfl (w.heap.size + 1 + 1) 0 (by rfl) (viewL e) _ (fun W h => h.2.2.2) Tryz.underlying45 rfl (by kernel_rfl)) (by assumption) ?_
            try simp only [Act.put, zA, zB, zC]
            refine wpAnyZ_two (i := 4) (j := 6) (by kernel_rfl) rfl rfl (fun K hK => ?_) (fun K hK => ?_)
            · go_simp
              go_at_call 24
              refine (HI.out _ HB200.out).mono ?_
              rintro e w201 ⟨a, rfl, ha, hb⟩
              have hbz := hb.size
              have HVA := Lib.hid ha
              have HB201 := Lib.hid (HB200.out.trans (hb.mono HB200.out.size))
              have HC201 : Hid (Below wv.heap.size wv w201) := HC200.out.trans (hb.mono HC200.out.size)
              clear ha hb
              refine hK.out _ _ (fun _ => HS6.out _ HB201.out) (fun hHeld => ?_)
              replace hHeld := hHeld (by decide)
              clear hK K
              try simp only [Act.put, zA, zB, zC]
              refine wpAnyZ_two (i := 5) (j := 6) (by kernel_rfl) rfl rfl (fun K hK => ?_) (fun K hK => ?_)
              · go_simp
                go_at_call 13
                refine (EX3.out _ a HB201.out HVA.out).mono ?_
                rintro e w202 ⟨u1, rfl, hf, hb⟩
                have hbz := hb.size
                replace HVA := Lib.hid ((HVA.out.below hb).mono hb.size)
                have HFG := Lib.hid hf.lt
                have HB202 := Lib.hid (HB201.out.trans (hb.mono HB201.out.size))
                have HC202 : Hid (Below wv.heap.size wv w202) := HC201.out.trans (hb.mono HC201.out.size)
                clear hf hb
                refine hK.out _ _ (fun _ => HS6.out _ HB202.out) (fun hHeld => ?_)
                replace hHeld := hHeld (by decide)
                clear hK K
                try simp only [Act.put, zA, zB, zC]
                refine wpAnyZ_oneL (i := 6) (by kernel_rfl) rfl (fun K hK => ?_)
                go_simp
                obtain ⟨w203, hw⟩ : ∃ W, World.alloc w202 (.cells eff0 tEff) = W := ⟨_, rfl⟩
                rw [hw]
                obtain ⟨hk, hb, hbz⟩ := alloc_here hw
                obtain ⟨z, hp⟩ : ∃ p, w202.heap.size = p := ⟨_, rfl⟩
                rw [hp]
                have HKZ := Lib.hid hk
                rw [hp] at HKZ
                have hpa := Nat.le_of_eq hp
                have hpb := Nat.le_of_eq hp.symm
                replace hbz := Nat.le_of_eq hbz.symm
                clear hp
                replace HVA := Lib.hid ((HVA.out.below hb).mono hb.size)
                replace HFG := Lib.hid (HFG.out.below hb)
                have HB203 := Lib.hid (HB202.out.trans (hb.mono HB202.out.size))
                have HC203 : Hid (Below wv.heap.size wv w203) := HC202.out.trans (hb.mono HC202.out.size)
                clear hk hb hw
                refine hK.out _ _ (fun _ => HS6.out _ HB203.out) (fun hHeld => ?_)
                replace hHeld := hHeld (by decide)
                clear hK K
                try simp only [Act.put, zA, zB, zC]
                have zb := HC200.out.size
                have zz : wv.heap.size ≤ z := by omega
                replace HFG := Lib.hid (HFG.out.mono (B' := fun b => b ≠ z) (fun b hb => by omega))
                obtain ⟨x1, rfl, n1, o1⟩ := HFG.out.cells
                refine wpAnyZ_oneL (i := 7) (by kernel_rfl) rfl (fun K hK => ?_)
                rw [if_pos (by rfl)]
                refine wp_store_rowM tEff (.tmp 10) (.tmp 39) rfl z rfl tEff eff0 HKZ.out (.agg x1) rfl (by kernel_rfl) n1 o1 ?_
                intro w204 hA
                have HBF := HC203.out.trans (hA.below zz)
                refine hK.out _ _ (fun _ => HS6.out _ (HB203.out.trans (hA.below (by have := HBC.out.size; omega)))) (fun hHeld => ?_)
                replace hHeld := hHeld (by decide)
                clear hK K
                try simp only [Act.put]
                have HT : EffBlk w204 z G := ⟨x1, hA.at_, (HFG.out.wrote (fun _ h => h) hA).any⟩
                refine wpAnyZ_done (by kernel_rfl) ?_ _
                clear hHeld
                as_aux_lemma =>
                go_wp2_with fail
                go_meet
                exact ⟨z, rfl, HT, zz, HBF⟩
              · go_simp
                obtain ⟨w205, hw⟩ : ∃ W, World.alloc w201 (.cells eff0 tEff) = W := ⟨_, rfl⟩
                rw [hw]
                obtain ⟨hk, hb, hbz⟩ := alloc_here hw
                obtain ⟨z, hp⟩ : ∃ p, w201.heap.size = p := ⟨_, rfl⟩
                rw [hp]
                have HKZ := Lib.hid hk
                rw [hp] at HKZ
                have hpa := Nat.le_of_eq hp
                have hpb := Nat.le_of_eq hp.symm
                replace hbz := Nat.le_of_eq hbz.symm
                clear hp
                replace HVA := Lib.hid ((HVA.out.below hb).mono hb.size)
                have HB205 := Lib.hid (HB201.out.trans (hb.mono HB201.out.size))
                have HC205 : Hid (Below wv.heap.size wv w205) := HC201.out.trans (hb.mono HC201.out.size)
                clear hk hb hw
                refine hK.out _ _ (fun _ => HS6.out _ HB205.out) (fun hHeld => ?_)
                replace hHeld := hHeld (by decide)
                clear hK K
                try simp only [Act.put, zA, zB, zC]
                refine wpAnyZ_oneL (i := 5) (by kernel_rfl) rfl (fun K hK => ?_)
                go_simp
                go_at_call 13
                refine (EX3.out _ a HB205.out HVA.out).mono ?_
                rintro e w206 ⟨u1, rfl, hf, hb⟩
                have hbz := hb.size
                replace HKZ := Lib.hid ((hb.block _ (Array.getElem?_eq_some_iff.1 HKZ.out).1).trans HKZ.out)
                replace HVA := Lib.hid ((HVA.out.below hb).mono hb.size)
                have HFG := Lib.hid hf.lt
                have HB206 := Lib.hid (HB205.out.trans (hb.mono HB205.out.size))
                have HC206 : Hid (Below wv.heap.size wv w206) := HC205.out.trans (hb.mono HC205.out.size)
                clear hf hb
                refine hK.out _ _ (fun _ => HS6.out _ HB206.out) (fun hHeld => ?_)
                replace hHeld := hHeld (by decide)
                clear hK K
                try simp only [Act.put, zA, zB, zC]
                have zb := HC200.out.size
                have zz : wv.heap.size ≤ z := by omega
                replace HFG := Lib.hid (HFG.out.mono (B' := fun b => b ≠ z) (fun b hb => by omega))
                obtain ⟨x1, rfl, n1, o1⟩ := HFG.out.cells
                refine wpAnyZ_oneL (i := 7) (by kernel_rfl) rfl (fun K hK => ?_)
                rw [if_pos (by rfl)]
                refine wp_store_rowM tEff (.tmp 10) (.tmp 39) rfl z rfl tEff eff0 HKZ.out (.agg x1) rfl (by kernel_rfl) n1 o1 ?_
                intro w207 hA
                have HBF := HC206.out.trans (hA.below zz)
                refine hK.out _ _ (fun _ => HS6.out _ (HB206.out.trans (hA.below (by have := HBC.out.size; omega)))) (fun hHeld => ?_)
                replace hHeld := hHeld (by decide)
                clear hK K
                try simp only [Act.put]
                have HT : EffBlk w207 z G := ⟨x1, hA.at_, (HFG.out.wrote (fun _ h => h) hA).any⟩
                refine wpAnyZ_done (by kernel_rfl) ?_ _
                clear hHeld
                as_aux_lemma =>
                go_wp2_with fail
                go_meet
                exact ⟨z, rfl, HT, zz, HBF⟩
            · go_simp
              obtain ⟨w208, hw⟩ : ∃ W, World.alloc w200 (.cells eff0 tEff) = W := ⟨_, rfl⟩
              rw [hw]
              obtain ⟨hk, hb, hbz⟩ := alloc_here hw
              obtain ⟨z, hp⟩ : ∃ p, w200.heap.size = p := ⟨_, rfl⟩
              rw [hp]
              have HKZ := Lib.hid hk
              rw [hp] at HKZ
              have hpa := Nat.le_of_eq hp
              have hpb := Nat.le_of_eq hp.symm
              replace hbz := Nat.le_of_eq hbz.symm
              clear hp
              have HB208 := Lib.hid (HB200.out.trans (hb.mono HB200.out.size))
              have HC208 : Hid (Below wv.heap.size wv w208) := HC200.out.trans (hb.mono HC200.out.size)
              clear hk hb hw
              refine hK.out _ _ (fun _ => HS6.out _ HB208.out) (fun hHeld => ?_)
              replace hHeld := hHeld (by decide)
              clear hK K
              try simp only [Act.put, zA, zB, zC]
              refine wpAnyZ_oneL (i := 4) (by kernel_rfl) rfl (fun K hK => ?_)
              go_simp
              go_at_call 24
              refine (HI.out _ HB208.out).mono ?_
              rintro e w209 ⟨a, rfl, ha, hb⟩
              have hbz := hb.size
              replace HKZ := Lib.hid ((hb.block _ (Array.getElem?_eq_some_iff.1 HKZ.out).1).trans HKZ.out)
              have HVA := Lib.hid ha
              have HB209 := Lib.hid (HB208.out.trans (hb.mono HB208.out.size))
              have HC209 : Hid (Below wv.heap.size wv w209) := HC208.out.trans (hb.mono HC208.out.size)
              clear ha hb
              refine hK.out _ _ (fun _ => HS6.out _ HB209.out) (fun hHeld => ?_)
              replace hHeld := hHeld (by decide)
              clear hK K
              try simp only [Act.put, zA, zB, zC]
              refine wpAnyZ_oneL (i := 5) (by kernel_rfl) rfl (fun K hK => ?_)
              go_simp
              go_at_call 13
              refine (EX3.out _ a HB209.out HVA.out).mono ?_
              rintro e w210 ⟨u1, rfl, hf, hb⟩
              have hbz := hb.size
              replace HKZ := Lib.hid ((hb.block _ (Array.getElem?_eq_some_iff.1 HKZ.out).1).trans HKZ.out)
              replace HVA := Lib.hid ((HVA.out.below hb).mono hb.size)
              have HFG := Lib.hid hf.lt
              have HB210 := Lib.hid (HB209.out.trans (hb.mono HB209.out.size))
              have HC210 : Hid (Below wv.heap.size wv w210) := HC209.out.trans (hb.mono HC209.out.size)
              clear hf hb
              refine hK.out _ _ (fun _ => HS6.out _ HB210.out) (fun hHeld => ?_)
              replace hHeld := hHeld (by decide)
              clear hK K
              try simp only [Act.put, zA, zB, zC]
              have zb := HC200.out.size
              have zz : wv.heap.size ≤ z := by omega
              replace HFG := Lib.hid (HFG.out.mono (B' := fun b => b ≠ z) (fun b hb => by omega))
              obtain ⟨x1, rfl, n1, o1⟩ := HFG.out.cells
              refine wpAnyZ_oneL (i := 7) (by kernel_rfl) rfl (fun K hK => ?_)
              rw [if_pos (by rfl)]
              refine wp_store_rowM tEff (.tmp 10) (.tmp 39) rfl z rfl tEff eff0 HKZ.out (.agg x1) rfl (by kernel_rfl) n1 o1 ?_
              intro w211 hA
              have HBF := HC210.out.trans (hA.below zz)
              refine hK.out _ _ (fun _ => HS6.out _ (HB210.out.trans (hA.below (by have := HBC.out.size; omega)))) (fun hHeld => ?_)
              replace hHeld := hHeld (by decide)
              clear hK K
              try simp only [Act.put]
              have HT : EffBlk w211 z G := ⟨x1, hA.at_, (HFG.out.wrote (fun _ h => h) hA).any⟩
              refine wpAnyZ_done (by kernel_rfl) ?_ _
              clear hHeld
              as_aux_lemma =>
              go_wp2_with fail
              go_meet
              exact ⟨z, rfl, HT, zz, HBF⟩
          case rest =>
            obtain ⟨z, rfl, hg1, zz, hbd⟩ := hcut
            have HBD := Lib.hid hbd
            replace HE1 := Lib.hid (HE1.out.below hbd)
            replace HE2 := Lib.hid (HE2.out.below hbd)
            obtain ⟨xe, hkp, iu, ou, tu, su, lE, he, el, f1, f2, f3, f4⟩ := HE1.out
            injection he with he
            subst he
            obtain ⟨xf, hkq, iv, ov, tv, sv, lF, he, fl, g1, g2, g3, g4⟩ := HE2.out
            injection he with he
            subst he
            obtain ⟨xg, hkz, iw, ow, tw, sw, lG, he, gl, k1, k2, k3, k4⟩ := hg1
            injection he with he
            subst he
            clear HE1 HE2 hbd
            obtain ⟨E1, E2, EI, EO, ET, EC, EL, EM, ES⟩ := E
            obtain ⟨G1, G2, GI, GO, GT, GC, GL, GM, GS⟩ := G
            dsimp only at hkp hkq hkz el fl gl f1 f2 f3 f4 g1 g2 g3 g4 k1 k2 k3 k4
            obtain ⟨aE1, cE1, rfl⟩ := f1.form
            obtain ⟨aE2, cE2, rfl⟩ := f2.form
            obtain ⟨aE3, cE3, rfl⟩ := f3.form
            obtain ⟨aE4, cE4, rfl⟩ := f4.form
            obtain ⟨aF1, cF1, rfl⟩ := g1.form
            obtain ⟨aF2, cF2, rfl⟩ := g2.form
            obtain ⟨aF3, cF3, rfl⟩ := g3.form
            obtain ⟨aF4, cF4, rfl⟩ := g4.form
            obtain ⟨aG1, cG1, rfl⟩ := k1.form
            obtain ⟨aG2, cG2, rfl⟩ := k2.form
            obtain ⟨aG3, cG3, rfl⟩ := k3.form
            obtain ⟨aG4, cG4, rfl⟩ := k4.form
            have HGE : Hid (∀ W, Below wc.heap.size wc W → W.cell? ⟨p, 0, none⟩ = some (.int .i64 E1) ∧ W.cell? ⟨p, 1, none⟩ = some (.int .i64 E2) ∧ W.cell? ⟨p, 2, none⟩ = some (.slice aE1 EI.length cE1) ∧ W.cell? ⟨p, 3, none⟩ = some (.slice aE2 EO.length cE2) ∧ W.cell? ⟨p, 4, none⟩ = some (.slice aE3 ET.length cE3) ∧ W.cell? ⟨p, 5, none⟩ = some (.string EC) ∧ W.cell? ⟨p, 6, none⟩ = some (.string lE) ∧ W.cell? ⟨p, 7, none⟩ = some (.int .i64 EM) ∧ W.cell? ⟨p, 8, none⟩ = some (.slice aE4 ES.length cE4)) := fun W hb => by
              have k := (hb.block _ (Array.getElem?_eq_some_iff.1 hkp).1).trans hkp
              exact ⟨cell_of_blk k 0, cell_of_blk k 1, cell_of_blk k 2, cell_of_blk k 3, cell_of_blk k 4, cell_of_blk k 5, cell_of_blk k 6, cell_of_blk k 7, cell_of_blk k 8⟩
            have HGF : Hid (∀ W, Below wc.heap.size wc W → W.cell? ⟨q, 0, none⟩ = some (.int .i64 E1) ∧ W.cell? ⟨q, 1, none⟩ = some (.int .i64 E2) ∧ W.cell? ⟨q, 2, none⟩ = some (.slice aF1 EI.length cF1) ∧ W.cell? ⟨q, 3, none⟩ = some (.slice aF2 EO.length cF2) ∧ W.cell? ⟨q, 4, none⟩ = some (.slice aF3 ET.length cF3) ∧ W.cell? ⟨q, 5, none⟩ = some (.string EC) ∧ W.cell? ⟨q, 6, none⟩ = some (.string lF) ∧ W.cell? ⟨q, 7, none⟩ = some (.int .i64 EM) ∧ W.cell? ⟨q, 8, none⟩ = some (.slice aF4 ES.length cF4)) := fun W hb => by
              have k := (hb.block _ (Array.getElem?_eq_some_iff.1 hkq).1).trans hkq
              exact ⟨cell_of_blk k 0, cell_of_blk k 1, cell_of_blk k 2, cell_of_blk k 3, cell_of_blk k 4, cell_of_blk k 5, cell_of_blk k 6, cell_of_blk k 7, cell_of_blk k 8⟩
            have HGG : Hid (∀ W, Below wc.heap.size wc W → W.cell? ⟨z, 0, none⟩ = some (.int .i64 G1) ∧ W.cell? ⟨z, 1, none⟩ = some (.int .i64 G2) ∧ W.cell? ⟨z, 2, none⟩ = some (.slice aG1 GI.length cG1) ∧ W.cell? ⟨z, 3, none⟩ = some (.slice aG2 GO.length cG2) ∧ W.cell? ⟨z, 4, none⟩ = some (.slice aG3 GT.length cG3) ∧ W.cell? ⟨z, 5, none⟩ = some (.string GC) ∧ W.cell? ⟨z, 6, none⟩ = some (.string lG) ∧ W.cell? ⟨z, 7, none⟩ = some (.int .i64 GM) ∧ W.cell? ⟨z, 8, none⟩ = some (.slice aG4 GS.length cG4)) := fun W hb => by
              have k := (hb.block _ (Array.getElem?_eq_some_iff.1 hkz).1).trans hkz
              exact ⟨cell_of_blk k 0, cell_of_blk k 1, cell_of_blk k 2, cell_of_blk k 3, cell_of_blk k 4, cell_of_blk k 5, cell_of_blk k 6, cell_of_blk k 7, cell_of_blk k 8⟩
            have XA : Hid (EffAt anyB wc ⟨E1, E2, EI, EO, ET, EC, EL, EM, ES⟩ (.agg #[.int .i64 E1, .int .i64 E2, .slice aE1 EI.length cE1, .slice aE2 EO.length cE2, .slice aE3 ET.length cE3, .string EC, .string lE, .int .i64 EM, .slice aE4 ES.length cE4])) := ⟨_, _, _, _, _, rfl, el, f1, f2, f3, f4⟩
            have XF : Hid (EffAt anyB wc ⟨E1, E2, EI, EO, ET, EC, EL, EM, ES⟩ (.agg #[.int .i64 E1, .int .i64 E2, .slice aF1 EI.length cF1, .slice aF2 EO.length cF2, .slice aF3 ET.length cF3, .string EC, .string lF, .int .i64 EM, .slice aF4 ES.length cF4])) := ⟨_, _, _, _, _, rfl, fl, g1, g2, g3, g4⟩
            have zi := Nat.le_trans XB1.out.il z70
            have zo := Nat.le_trans XB1.out.ol z70
            have zt := BK1.out.1
            have zs := Nat.le_trans XB1.out.sl z70
            try dsimp only at zi zo zt zs
            have SM := Lib.hid (same_same _ _ _ _ _ (by dsimp only; omega) (by dsimp only; omega) (by dsimp only; omega) (by dsimp only; omega) wc XA.out XF.out)
            have HF2 := Lib.hid f1
            have HF3 := Lib.hid f2
            have HK2 := Lib.hid k1
            have HK3 := Lib.hid k2
            have HB9 : Hid (Below w3.heap.size w3 wc) := HB8.out.trans ((HBC.out.mono (Nat.le_refl _)).trans (HBD.out.mono HBC.out.size) |>.mono z8)
            clear el fl gl f1 f2 f3 f4 g1 g2 g3 g4 k1 k2 k3 k4 hkp hkq hkz XA XF HBC HBD zp zq zz HS6 EX3 HI XB1 BK1 zg z8 z7 HB8
            have HDD : Hid (Below wc.heap.size wc wc) := Below.refl _ _
            obtain ⟨e0, e1, e2, e3, e4, e5, e6, e7, e8⟩ := HGE.out _ HDD.out
            obtain ⟨h0, h1, h2, h3, h4, h5, h6, h7, h8⟩ := HGF.out _ HDD.out
            go_wp2_with fail
            refine SM.out.mono ?_
            rintro e w9 ⟨rfl, hb9⟩
            have HBX := Lib.hid hb9
            have HB10 : Hid (Below w3.heap.size w3 w9) := HB9.out.trans (hb9.mono HB9.out.size)
            clear hb9 SM e0 e1 e2 e3 e4 e5 e6 e7 e8 h0 h1 h2 h3 h4 h5 h6 h7 h8
            obtain ⟨e0, e1, e2, e3, e4, e5, e6, e7, e8⟩ := HGE.out _ HBX.out
            obtain ⟨h0, h1, h2, h3, h4, h5, h6, h7, h8⟩ := HGF.out _ HBX.out
            obtain ⟨k0, k1, k2, k3, k4, k5, k6, k7, k8⟩ := HGG.out _ HBX.out
            have LX := Lib.hid (LW.out _ HB10.out)
            by_cases hs : E1 = 1
            · by_cases hg : G1 = 1
              · obtain ⟨a1, a2, a3⟩ := HHP.out hs hg
                try dsimp only at a1 a2 a3
                subst hs hg a1 a2 a3
                have OA := Lib.hid (fun W (hb : Below wc.heap.size wc W) => outs_same EO _ _ _ _ (by omega) W (HF3.out.below hb) (HK3.out.below hb))
                have OB := Lib.hid (fun W (hb : Below wc.heap.size wc W) => outs_same EI _ _ _ _ (by omega) W (HF2.out.below hb) (HK2.out.below hb))
                clear HHP HNE HNG HF2 HF3 HK2 HK3 LX
                as_aux_lemma =>
                go_wp2_with fail
                refine (OA.out _ HBX.out).mono ?_
                rintro e w11 ⟨rfl, hb11⟩
                have HB11 : Hid (Below wc.heap.size wc w11) := HBX.out.trans (hb11.mono HBX.out.size)
                clear e0 e1 e2 e3 e4 e5 e6 e7 e8 h0 h1 h2 h3 h4 h5 h6 h7 h8 k0 k1 k2 k3 k4 k5 k6 k7 k8 hb11
                obtain ⟨e0, e1, e2, e3, e4, e5, e6, e7, e8⟩ := HGE.out _ HB11.out
                obtain ⟨k0, k1, k2, k3, k4, k5, k6, k7, k8⟩ := HGG.out _ HB11.out
                go_wp2_with fail
                refine (OB.out _ HB11.out).mono ?_
                rintro e w12 ⟨rfl, hb12⟩
                have HB12 : Hid (Below wc.heap.size wc w12) := HB11.out.trans (hb12.mono HB11.out.size)
                clear hb12 e0 e1 e2 e3 e4 e5 e6 e7 e8 k0 k1 k2 k3 k4 k5 k6 k7 k8
                obtain ⟨e0, e1, e2, e3, e4, e5, e6, e7, e8⟩ := HGE.out _ HB12.out
                obtain ⟨k0, k1, k2, k3, k4, k5, k6, k7, k8⟩ := HGG.out _ HB12.out
                go_wp2_with fail
                refine (LW.out _ (HB9.out.trans (HB12.out.mono HB9.out.size))).mono ?_
                rintro e w13 ⟨rfl, hb13⟩
                have HBF : Hid (Below w.heap.size w w13) := HBB.out.trans (((HB9.out.trans (HB12.out.mono HB9.out.size)).trans (hb13.mono (by have := HB9.out.size; have := HB12.out.size; omega))).mono (by omega))
                clear hb13 e0 e1 e2 e3 e4 e5 e6 e7 e8 k0 k1 k2 k3 k4 k5 k6 k7 k8
                go_wp2_with fail
                go_ret
                exact ⟨rfl, HBF.out⟩
              · have ht : (G1 != 1) = true := by simp [hg]
                have hgo := HNG.out hg
                try dsimp only at hgo
                subst hgo hs
                clear HHP HNE HNG HF2 HF3 HK2 HK3
                by_cases ho : EO = []
                · subst ho
                  as_aux_lemma =>
                  go_wp2_with fail
                  refine LX.out.mono ?_
                  rintro e w11 ⟨rfl, hb11⟩
                  have HBF : Hid (Below w.heap.size w w11) := HBB.out.trans ((HB10.out.trans (hb11.mono HB10.out.size)).mono (by omega))
                  clear hb11 e0 e1 e2 e3 e4 e5 e6 e7 e8 h0 h1 h2 h3 h4 h5 h6 h7 h8 k0 k1 k2 k3 k4 k5 k6 k7 k8
                  go_wp2_with fail
                  go_ret
                  exact ⟨rfl, HBF.out⟩
                · have ho2 : ((EO.length : Int) == 0) = false := by
                    rw [beq_eq_false_iff_ne]
                    intro h
                    exact ho (List.length_eq_zero_iff.1 (by omega))
                  have ho3 : (EO.length == 0) = false := by
                    rw [beq_eq_false_iff_ne]
                    intro h
                    exact ho (List.length_eq_zero_iff.1 h)
                  generalize EO.length = no at *
                  clear ho
                  as_aux_lemma =>
                  go_wp2_with fail
                  refine LX.out.mono ?_
                  rintro e w11 ⟨rfl, hb11⟩
                  have HBF : Hid (Below w.heap.size w w11) := HBB.out.trans ((HB10.out.trans (hb11.mono HB10.out.size)).mono (by omega))
                  clear hb11 e0 e1 e2 e3 e4 e5 e6 e7 e8 h0 h1 h2 h3 h4 h5 h6 h7 h8 k0 k1 k2 k3 k4 k5 k6 k7 k8
                  go_wp2_with fail
                  go_ret
                  exact ⟨rfl, HBF.out⟩
            · have ht : (E1 != 1) = true := by simp [hs]
              have hgo := HNE.out hs
              try dsimp only at hgo
              subst hgo
              clear HHP HNE HNG HF2 HF3 HK2 HK3
              as_aux_lemma =>
              go_wp2_with fail
              refine LX.out.mono ?_
              rintro e w11 ⟨rfl, hb11⟩
              have HBF : Hid (Below w.heap.size w w11) := HBB.out.trans ((HB10.out.trans (hb11.mono HB10.out.size)).mono (by omega))
              clear hb11 e0 e1 e2 e3 e4 e5 e6 e7 e8 h0 h1 h2 h3 h4 h5 h6 h7 h8 k0 k1 k2 k3 k4 k5 k6 k7 k8
              go_wp2_with fail
              go_ret
              exact ⟨rfl, HBF.out⟩
end Go.Proofs.YtghahghbahcpfaaGreatDoor
