/- The law SandboxCaches. -/
import Derived.Test.YtghahghbahcpfaaGreatDoorVo5
import Derived.Test.YtghahghbahcpfaaGreatDoorVo4
import Derived.Test.YtghahghbahcpfaaGreatDoorVo6
import Derived.Deep.DeepCutAuto
namespace Go.Proofs.YtghahghbahcpfaaGreatDoor
open Go.RowKit

theorem vat_nil {xb : Nat} {c : Nat → Value} {v : ViewM} {w : World} (h : VAt xb c v w) : VAt xb (nilC c) (noC v) w := ⟨h.files, h.arts, h.secs, .nil, h.keys, h.tests, h.times, h.ign, h.att⟩
theorem VB.noC {v : ViewM} (h : VB v) : VB (noC v) := ⟨h.files, h.arts, h.secs, Nat.zero_le _, h.keys, h.tests, h.times, h.ign, h.fileN, h.artN, h.secN, h.keyN⟩
def CvRel (n : Nat) (w1 : World) (f : Nat) (t8 _t9 : Value) (wr : World) : Prop :=
  ∃ i : Nat, t8 = .int .i64 (i : Nat) ∧ i ≤ n ∧ f = n - i ∧ Below w1.heap.size w1 wr
set_option maxRecDepth 100000 in
set_option maxHeartbeats 6400000 in
theorem caches_law (c : Nat → Value) (j : JobM) (v : ViewM) (hfj : JFit j) (hfv : VFit v) (m : Int) (w : World) (hm : w.cell? ⟨0, 0, none⟩ = some (.int .i64 m)) (hj : JAt w.heap.size c j w) (hv : VAt w.heap.size c v w) :
    Calls Tryz.prog 7 #[jobA c, viewA c] w (LawPost w) := by
  have LV := Lib.hid (fun (W : World) (hb : Below w.heap.size w W) => lives_any m W ((hb.cell (p := ⟨0, 0, none⟩) (World.block_lt_of_cell? w _ hm)).trans hm))
  unfold LawPost at LV
  have hw0 : 0 < w.heap.size := World.block_lt_of_cell? w _ hm
  obtain ⟨w1, hw1⟩ : ∃ w1, w.alloc (.cells (jobC c) tJob (0, 0)) = w1 := ⟨_, rfl⟩
  obtain ⟨w2, hw2⟩ : ∃ w2, w1.alloc (.cells (viewC c) tView (0, 0)) = w2 := ⟨_, rfl⟩
  have hs1 : w1.heap.size = w.heap.size + 1 := by rw [← hw1]; simp
  have hs2 : w2.heap.size = w.heap.size + 1 + 1 := by rw [← hw2]; simp [hs1]
  have hk1 : w2.heap[w.heap.size]? = some (.cells (jobC c) tJob (0, 0)) := by rw [← hw2]; exact (hp_old (by omega)).trans (by rw [← hw1]; exact hp_new rfl)
  have hk2 : w2.heap[w.heap.size + 1]? = some (.cells (viewC c) tView (0, 0)) := by rw [← hw2]; exact hp_new (by omega)
  have hb2 : Below w.heap.size w w2 := by rw [← hw2, ← hw1]; exact ((Below.refl _ w).alloc (Nat.le_refl _) _).alloc (by simp) _
  have HB2 := Lib.hid hb2
  have HW1 := Lib.hid hw1
  have HW2 := Lib.hid hw2
  have z2 : w.heap.size + 1 < w2.heap.size := (Array.getElem?_eq_some_iff.1 hk2).1
  have HS : Hid (∀ W, Below w2.heap.size w2 W → W.rangeAt w.heap.size 0 (jobL c) ∧ W.rangeAt (w.heap.size + 1) 0 (viewL c)) := fun W hb =>
    ⟨range_job ((hb.block _ (show w.heap.size < _ by omega)).trans hk1), range_view ((hb.block _ (show w.heap.size + 1 < _ by omega)).trans hk2)⟩
  have HJW : Hid (∀ W, Below w2.heap.size w2 W → JAt W.heap.size c j W) := fun W hb => by
    have hz := hb.size
    exact ((hj.below hb2).below (hb.mono (by omega))).mono (by omega)
  have HVW : Hid (∀ W, Below w2.heap.size w2 W → VAt W.heap.size c v W) := fun W hb => by
    have hz := hb.size
    exact ((hv.below hb2).below (hb.mono (by omega))).mono (by omega)
  have HM : Hid (∀ W, Below w2.heap.size w2 W → W.cell? ⟨0, 0, none⟩ = some (.int .i64 m)) := fun W hb => ((hb2.trans (hb.mono (by omega))).cell (p := ⟨0, 0, none⟩) hw0).trans hm
  have SJ : Hid (∀ W, Below w2.heap.size w2 W → Calls Tryz.prog 9 #[jobA c] W fun e w' => e = .returned (.bool (smallJF j)) ∧ Below W.heap.size W w') := fun W hb => smallJob_any c j W hfj (HJW.out W hb)
  have SV : Hid (∀ W, Below w2.heap.size w2 W → Calls Tryz.prog 10 #[viewA c] W fun e w' => e = .returned (.bool (smallVF v)) ∧ Below W.heap.size W w') := fun W hb => smallView_any c v W hfv (HVW.out W hb)
  have HJS : Hid (smallJF j = true → JS j) := JS.of hfj
  have HVS : Hid (smallVF v = true → VS v) := VS.of hfv
  have HR2 : Hid (Below w2.heap.size w2 w2) := Below.refl _ _
  clear hfj hfv hj hv hm hk1 hk2 hb2 hw1 hw2 hs1 hs2
  generalize smallJF j = sj at *
  generalize smallVF v = sv at *
  go_enter Tryz.func7, Tryz.ntmps7
  go_upto_region 1 with fail
  rw [HW1.out, HW2.out]
  clear HW1 HW2
  refine wp_region_lit ?_
  refine wpList_load_mid rfl tJob (.tmp 2) rfl w.heap.size 0 rfl (jobL c) _ (HS.out _ HR2.out).1 Tryz.underlying38 rfl (by kernel_rfl) ?_
  try simp only [Act.put, zA, zB, zC]
  go_wp2_with fail
  refine (SJ.out _ HR2.out).mono ?_
  rintro e w3 ⟨rfl, hb3⟩
  have HB3 := Lib.hid hb3
  clear hb3 SJ
  cases sj with
  | false =>
    have LV3 := Lib.hid (LV.out _ (HB2.out.trans (HB3.out.mono (by omega))))
    clear LV SV HJS HVS HS HJW HVW HM
    as_aux_lemma =>
    go_wp2_with fail
    refine LV3.out.mono ?_
    rintro e w4 ⟨rfl, hb4⟩
    have HB4 : Hid (Below w.heap.size w w4) := HB2.out.trans ((HB3.out.mono (by omega)).trans (hb4.mono (by have := HB3.out.size; omega)))
    clear hb4
    go_wp2_with fail
    go_ret
    exact ⟨rfl, HB4.out⟩
  | true =>
    have HJ := Lib.hid (HJS.out rfl)
    clear HJS
    rename_i K0 hK0 K1 hK1
    dsimp only
    refine hK1 _ _ ?_
    clear hK1 K1
    try simp only [Act.put, zA, zB, zC]
    refine wpList_plain rfl (fun K hK => ?_)
    go_simp
    refine hK _ _ ?_
    clear hK K
    try simp only [Act.put, zA, zB, zC]
    refine wpList_plain rfl (fun K hK => ?_)
    go_simp
    refine hK _ _ ?_
    clear hK K
    try simp only [Act.put, zA, zB, zC]
    refine wpList_load_midG (by rfl) tView (.tmp 3) rfl (w.heap.size + 1) 0 rfl (viewL c) _ (HS.out _ HB3.out).2 Tryz.underlying45 rfl (by kernel_rfl) ?_
    try simp only [Act.put, zA, zB, zC]
    go_wp2_with fail
    refine (SV.out _ HB3.out).mono ?_
    rintro e w4 ⟨rfl, hb4⟩
    have HB4 : Hid (Below w2.heap.size w2 w4) := HB3.out.trans (hb4.mono HB3.out.size)
    clear hb4 SV HB3
    cases sv with
    | false =>
      have LV4 := Lib.hid (LV.out _ (HB2.out.trans (HB4.out.mono (by omega))))
      clear LV HVS HS HJW HVW HM HJ
      as_aux_lemma =>
      go_wp2_with fail
      refine LV4.out.mono ?_
      rintro e w5 ⟨rfl, hb5⟩
      have HB5 : Hid (Below w.heap.size w w5) := HB2.out.trans ((HB4.out.mono (by omega)).trans (hb5.mono (by have := HB4.out.size; omega)))
      clear hb5
      go_wp2_with fail
      go_ret
      exact ⟨rfl, HB5.out⟩
    | true =>
      have HV := Lib.hid (HVS.out rfl)
      clear HVS
      have HC4 := Lib.hid (HS.out _ HB4.out)
      have HV1 := Lib.hid (view_one (HVW.out _ HB4.out))
      go_upto_region 3 with fail
      refine wp_region_lit ?_
      refine wpList_load_mid rfl tView (.tmp 3) rfl (w.heap.size + 1) 0 rfl (viewL c) _ HC4.out.2 Tryz.underlying45 rfl (by kernel_rfl) ?_
      try simp only [Act.put, zA, zB, zC]
      go_wp2_with (refine wpList_store_row rfl tView _ _ rfl w4.heap.size rfl tView _ (hp_new rfl) (.agg (viewC c)) rfl (by kernel_rfl) rfl HV1.out ?_)
      intro w5 hw5
      have hk5 : w5.heap[w4.heap.size]? = some (.cells (viewC c) tView (0, 0)) := hw5.at_
      have hb45 : Below w4.heap.size w4 w5 := ((Below.refl _ w4).alloc (Nat.le_refl _) _).trans (hw5.below (Nat.le_refl _))
      obtain ⟨g, hg⟩ : ∃ g, w4.heap.size = g := ⟨_, rfl⟩
      have z4 := HB4.out.size
      rw [hg] at hk5 hb45 z4
      rw [hg]
      have HB5 : Hid (Below w2.heap.size w2 w5) := HB4.out.trans (hb45.mono z4)
      have c42 : w5.cell? ⟨g, 3, none⟩ = some (c 42) := cell_of_blk hk5 3
      have fv := free_of_blk hk5 3
      have HWR := Lib.hid (wrote_setCell hk5 3 (.slice none 0 0))
      clear hw5 hb45 hg HC4 hk5
      go_upto_region 5 with fail
      obtain ⟨w6, hw6⟩ : ∃ W, w5.setCell ⟨g, 3, none⟩ (.slice none 0 0) = W := ⟨_, rfl⟩
      rw [hw6] at HWR
      rw [hw6]
      clear hw6 c42 fv
      have HKN : Hid (w6.heap[g]? = some (.cells (viewC (nilC c)) tView (0, 0))) := HWR.out.at_
      have HB6 : Hid (Below w2.heap.size w2 w6) := HB5.out.trans (HWR.out.below z4)
      have zg : g < w6.heap.size := (Array.getElem?_eq_some_iff.1 HKN.out).1
      have z6 : w2.heap.size ≤ w6.heap.size := by omega
      have HS6 : Hid (∀ W, Below w6.heap.size w6 W → W.rangeAt w.heap.size 0 (jobL c) ∧ W.rangeAt (w.heap.size + 1) 0 (viewL c) ∧ W.rangeAt g 0 (viewL (nilC c))) := fun W hb => by
        have := HS.out W (HB6.out.trans (hb.mono z6))
        exact ⟨this.1, this.2, range_view ((hb.block _ zg).trans HKN.out)⟩
      have EX1 := Lib.hid (fun W (hb : Below w6.heap.size w6 W) => exec_any c j v (by have := HJ.out.steps; omega) HJ.out.jb HV.out.vb m W (HM.out _ (HB6.out.trans (hb.mono z6))) (HVW.out _ (HB6.out.trans (hb.mono z6))) (HJW.out _ (HB6.out.trans (hb.mono z6))))
      have EX2 := Lib.hid (fun W (hb : Below w6.heap.size w6 W) => exec_any (nilC c) j (noC v) (by have := HJ.out.steps; omega) HJ.out.jb HV.out.vb.noC m W (HM.out _ (HB6.out.trans (hb.mono z6))) (vat_nil (HVW.out _ (HB6.out.trans (hb.mono z6)))) (jat_nil (HJW.out _ (HB6.out.trans (hb.mono z6)))))
      unfold ExPost at EX1 EX2
      have HSK := Lib.hid (saves_plain (declF j.inputs) j (noC v))
      have HCP := Lib.hid (caches_plain (declF j.inputs) j v)
      have XB1 := Lib.hid (exec_bd (declF j.inputs) j v HV.out.vb (fun s hs => by have := HJ.out.stepN s hs; omega))
      have XB2 := Lib.hid (exec_bd (declF j.inputs) j (noC v) HV.out.vb.noC (fun s hs => by have := HJ.out.stepN s hs; omega))
      have BK1 := Lib.hid (exec_bk (declF j.inputs) j v HV.out.vb)
      have BK2 := Lib.hid (exec_bk (declF j.inputs) j (noC v) HV.out.vb.noC)
      have z70 := HJ.out.steps
      generalize execF (declF j.inputs) j v = E at *
      generalize execF (declF j.inputs) j (noC v) = F at *
      clear HVW HJW HS HV HJ HWR HB5 HB4 HKN HM
      go_cut [6, 7] (PairRel w6 E F)
      case first =>
        have HB60 : Hid (Below w6.heap.size w6 w6.drew) := (Below.refl _ _).drew
        refine wp_region_Z (S := fun W' : World => W'.rangeAt w.heap.size 0 (jobL c) ∧ W'.rangeAt (w.heap.size + 1) 0 (viewL c) ∧ W'.rangeAt g 0 (viewL (nilC c))) 10 (by kernel_rfl) (HS6.out _ HB60.out) (fun hHeld => ?_)
        obtain ⟨w60, hw60⟩ : ∃ W, w6.drew = W := ⟨_, rfl⟩
        rw [hw60] at HB60 hHeld
        rw [hw60]
        clear hw60
        refine wpAnyZ_takeD (i := 0) (v := .agg (jobL c).toArray) rfl (by kernel_rfl) (by kernel_rfl) (by kernel_rfl) (by kernel_rfl) (fun _ _ _ h => h) (yieldsIf_load_mid (by rfl) tJob (.tmp 2) rfl w.heap.size 0 (by rfl) (jobL c) _ (fun W h => h.1) Tryz.underlying38 rfl (by kernel_rfl)) (by assumption) ?_
        try simp only [Act.put, zA, zB, zC]
        refine wpAnyZ_takeD (i := 1) (v := .agg (viewL c).toArray) rfl (by kernel_rfl) (by kernel_rfl) (by kernel_rfl) (by kernel_rfl) (fun _ _ _ h => h) (yieldsIf_load_mid (by rfl) tView (.tmp 3) rfl (w.heap.size + 1) 0 (by rfl) (viewL c) _ (fun W h => h.2.1) Tryz.underlying45 rfl (by kernel_rfl)) (by assumption) ?_
        try simp only [Act.put, zA, zB, zC]
        refine wpAnyZ_takeD (i := 3) (v := .agg (jobL c).toArray) rfl (by kernel_rfl) (by kernel_rfl) (by kernel_rfl) (by kernel_rfl) (fun _ _ _ h => h) (yieldsIf_load_mid (by rfl) tJob (.tmp 2) rfl w.heap.size 0 (by rfl) (jobL c) _ (fun W h => h.1) Tryz.underlying38 rfl (by kernel_rfl)) (by assumption) ?_
        try simp only [Act.put, zA, zB, zC]
        refine wpAnyZ_takeD (i := 4) (v := .agg (viewL (nilC c)).toArray) rfl (by kernel_rfl) (by kernel_rfl) (by kernel_rfl) (by kernel_rfl) (fun _ _ _ h => h) (yieldsIf_load_mid (by rfl) tView (.tmp 5) rfl g 0 (by rfl) (viewL (nilC c)) _ (fun W h => h.2.2) Tryz.underlying45 rfl (by kernel_rfl)) (by assumption) ?_
        try simp only [Act.put, zA, zB, zC]
        refine wpAnyZ_three (i := 2) (j := 6) (k := 7) (by kernel_rfl) rfl rfl rfl (fun K hK => ?_) (fun K hK => ?_) (fun K hK => ?_)
        · go_simp
          go_at_call 13
          refine (EX1.out _ HB60.out).mono ?_
          rintro e w61 ⟨u1, rfl, hf, hb⟩
          have hbz := hb.size
          have HF1 := Lib.hid hf.lt
          have HB61 := Lib.hid (HB60.out.trans (hb.mono HB60.out.size))
          clear hf hb
          refine hK.out _ _ (fun _ => HS6.out _ HB61.out) (fun hHeld => ?_)
          replace hHeld := hHeld (by decide)
          clear hK K
          try simp only [Act.put, zA, zB, zC]
          refine wpAnyZ_three (i := 5) (j := 6) (k := 7) (by kernel_rfl) rfl rfl rfl (fun K hK => ?_) (fun K hK => ?_) (fun K hK => ?_)
          · go_simp
            go_at_call 13
            refine (EX2.out _ HB61.out).mono ?_
            rintro e w62 ⟨u2, rfl, hf, hb⟩
            have hbz := hb.size
            replace HF1 := Lib.hid (HF1.out.below hb)
            have HF2 := Lib.hid hf.lt
            have HB62 := Lib.hid (HB61.out.trans (hb.mono HB61.out.size))
            clear hf hb
            refine hK.out _ _ (fun _ => HS6.out _ HB62.out) (fun hHeld => ?_)
            replace hHeld := hHeld (by decide)
            clear hK K
            try simp only [Act.put, zA, zB, zC]
            refine wpAnyZ_two (i := 6) (j := 7) (by kernel_rfl) rfl rfl (fun K hK => ?_) (fun K hK => ?_)
            · go_simp
              obtain ⟨w63, hw⟩ : ∃ W, World.alloc w62 (.cells eff0 tEff) = W := ⟨_, rfl⟩
              rw [hw]
              obtain ⟨hk, hb, hbz⟩ := alloc_here hw
              obtain ⟨p, hp1⟩ : ∃ p, w62.heap.size = p := ⟨_, rfl⟩
              rw [hp1]
              have HK1 := Lib.hid hk
              rw [hp1] at HK1
              have hp1a := Nat.le_of_eq hp1
              have hp1b := Nat.le_of_eq hp1.symm
              replace hbz := Nat.le_of_eq hbz.symm
              clear hp1
              replace HF1 := Lib.hid (HF1.out.below hb)
              replace HF2 := Lib.hid (HF2.out.below hb)
              have HB63 := Lib.hid (HB62.out.trans (hb.mono HB62.out.size))
              clear hk hb hw
              refine hK.out _ _ (fun _ => HS6.out _ HB63.out) (fun hHeld => ?_)
              replace hHeld := hHeld (by decide)
              clear hK K
              try simp only [Act.put, zA, zB, zC]
              refine wpAnyZ_oneL (i := 7) (by kernel_rfl) rfl (fun K hK => ?_)
              go_simp
              obtain ⟨w64, hw⟩ : ∃ W, World.alloc w63 (.cells eff0 tEff) = W := ⟨_, rfl⟩
              rw [hw]
              obtain ⟨hk, hb, hbz⟩ := alloc_here hw
              obtain ⟨q, hp2⟩ : ∃ p, w63.heap.size = p := ⟨_, rfl⟩
              rw [hp2]
              have HK2 := Lib.hid hk
              rw [hp2] at HK2
              have hp2a := Nat.le_of_eq hp2
              have hp2b := Nat.le_of_eq hp2.symm
              replace hbz := Nat.le_of_eq hbz.symm
              clear hp2
              replace HF1 := Lib.hid (HF1.out.below hb)
              replace HK1 := Lib.hid ((hb.block _ (Array.getElem?_eq_some_iff.1 HK1.out).1).trans HK1.out)
              replace HF2 := Lib.hid (HF2.out.below hb)
              have HB64 := Lib.hid (HB63.out.trans (hb.mono HB63.out.size))
              clear hk hb hw
              refine hK.out _ _ (fun _ => HS6.out _ HB64.out) (fun hHeld => ?_)
              replace hHeld := hHeld (by decide)
              clear hK K
              try simp only [Act.put, zA, zB, zC]
              have zb := HB60.out.size
              have hpq : p ≠ q := by omega
              have zp : w6.heap.size ≤ p := by omega
              have zq : w6.heap.size ≤ q := by omega
              replace HF1 := Lib.hid (HF1.out.mono (B' := fun b => b ≠ p ∧ b ≠ q) (fun b hb => ⟨by omega, by omega⟩))
              replace HF2 := Lib.hid (HF2.out.mono (B' := fun b => b ≠ p ∧ b ≠ q) (fun b hb => ⟨by omega, by omega⟩))
              obtain ⟨x1, rfl, n1, o1⟩ := HF1.out.cells
              obtain ⟨x2, rfl, n2, o2⟩ := HF2.out.cells
              refine wpAnyZ_oneL (i := 8) (by kernel_rfl) rfl (fun K hK => ?_)
              rw [if_pos (by rfl)]
              refine wp_store_rowM tEff (.tmp 6) (.tmp 23) rfl p rfl tEff eff0 HK1.out (.agg x1) rfl (by kernel_rfl) n1 o1 ?_
              intro w65 hA
              refine hK.out _ _ (fun _ => HS6.out _ (HB64.out.trans (hA.below zp))) (fun hHeld => ?_)
              replace hHeld := hHeld (by decide)
              clear hK K
              try simp only [Act.put]
              refine wpAnyZ_oneL (i := 9) (by kernel_rfl) rfl (fun K hK => ?_)
              rw [if_pos (by rfl)]
              refine wp_store_rowM tEff (.tmp 7) (.tmp 26) rfl q rfl tEff eff0 ((hA.block q (fun e => hpq e.symm)).trans HK2.out) (.agg x2) rfl (by kernel_rfl) n2 o2 ?_
              intro w66 hB
              have HT := two_effs HF1.out HF2.out (fun _ h => h) (fun _ h => h) hpq hA hB
              have HBF := (HB64.out.trans (hA.below zp)).trans (hB.below zq)
              refine hK.out _ _ (fun _ => HS6.out _ HBF) (fun hHeld => ?_)
              replace hHeld := hHeld (by decide)
              clear hK K
              try simp only [Act.put]
              refine wpAnyZ_done (by kernel_rfl) ?_ _
              clear hHeld
              as_aux_lemma =>
              go_wp2_with fail
              go_meet
              exact ⟨p, q, rfl, rfl, HT.1, HT.2, zp, zq, HBF⟩
            · go_simp
              obtain ⟨w67, hw⟩ : ∃ W, World.alloc w62 (.cells eff0 tEff) = W := ⟨_, rfl⟩
              rw [hw]
              obtain ⟨hk, hb, hbz⟩ := alloc_here hw
              obtain ⟨q, hp2⟩ : ∃ p, w62.heap.size = p := ⟨_, rfl⟩
              rw [hp2]
              have HK2 := Lib.hid hk
              rw [hp2] at HK2
              have hp2a := Nat.le_of_eq hp2
              have hp2b := Nat.le_of_eq hp2.symm
              replace hbz := Nat.le_of_eq hbz.symm
              clear hp2
              replace HF1 := Lib.hid (HF1.out.below hb)
              replace HF2 := Lib.hid (HF2.out.below hb)
              have HB67 := Lib.hid (HB62.out.trans (hb.mono HB62.out.size))
              clear hk hb hw
              refine hK.out _ _ (fun _ => HS6.out _ HB67.out) (fun hHeld => ?_)
              replace hHeld := hHeld (by decide)
              clear hK K
              try simp only [Act.put, zA, zB, zC]
              refine wpAnyZ_oneL (i := 6) (by kernel_rfl) rfl (fun K hK => ?_)
              go_simp
              obtain ⟨w68, hw⟩ : ∃ W, World.alloc w67 (.cells eff0 tEff) = W := ⟨_, rfl⟩
              rw [hw]
              obtain ⟨hk, hb, hbz⟩ := alloc_here hw
              obtain ⟨p, hp1⟩ : ∃ p, w67.heap.size = p := ⟨_, rfl⟩
              rw [hp1]
              have HK1 := Lib.hid hk
              rw [hp1] at HK1
              have hp1a := Nat.le_of_eq hp1
              have hp1b := Nat.le_of_eq hp1.symm
              replace hbz := Nat.le_of_eq hbz.symm
              clear hp1
              replace HF1 := Lib.hid (HF1.out.below hb)
              replace HF2 := Lib.hid (HF2.out.below hb)
              replace HK2 := Lib.hid ((hb.block _ (Array.getElem?_eq_some_iff.1 HK2.out).1).trans HK2.out)
              have HB68 := Lib.hid (HB67.out.trans (hb.mono HB67.out.size))
              clear hk hb hw
              refine hK.out _ _ (fun _ => HS6.out _ HB68.out) (fun hHeld => ?_)
              replace hHeld := hHeld (by decide)
              clear hK K
              try simp only [Act.put, zA, zB, zC]
              have zb := HB60.out.size
              have hpq : p ≠ q := by omega
              have zp : w6.heap.size ≤ p := by omega
              have zq : w6.heap.size ≤ q := by omega
              replace HF1 := Lib.hid (HF1.out.mono (B' := fun b => b ≠ p ∧ b ≠ q) (fun b hb => ⟨by omega, by omega⟩))
              replace HF2 := Lib.hid (HF2.out.mono (B' := fun b => b ≠ p ∧ b ≠ q) (fun b hb => ⟨by omega, by omega⟩))
              obtain ⟨x1, rfl, n1, o1⟩ := HF1.out.cells
              obtain ⟨x2, rfl, n2, o2⟩ := HF2.out.cells
              refine wpAnyZ_oneL (i := 8) (by kernel_rfl) rfl (fun K hK => ?_)
              rw [if_pos (by rfl)]
              refine wp_store_rowM tEff (.tmp 6) (.tmp 23) rfl p rfl tEff eff0 HK1.out (.agg x1) rfl (by kernel_rfl) n1 o1 ?_
              intro w69 hA
              refine hK.out _ _ (fun _ => HS6.out _ (HB68.out.trans (hA.below zp))) (fun hHeld => ?_)
              replace hHeld := hHeld (by decide)
              clear hK K
              try simp only [Act.put]
              refine wpAnyZ_oneL (i := 9) (by kernel_rfl) rfl (fun K hK => ?_)
              rw [if_pos (by rfl)]
              refine wp_store_rowM tEff (.tmp 7) (.tmp 26) rfl q rfl tEff eff0 ((hA.block q (fun e => hpq e.symm)).trans HK2.out) (.agg x2) rfl (by kernel_rfl) n2 o2 ?_
              intro w70 hB
              have HT := two_effs HF1.out HF2.out (fun _ h => h) (fun _ h => h) hpq hA hB
              have HBF := (HB68.out.trans (hA.below zp)).trans (hB.below zq)
              refine hK.out _ _ (fun _ => HS6.out _ HBF) (fun hHeld => ?_)
              replace hHeld := hHeld (by decide)
              clear hK K
              try simp only [Act.put]
              refine wpAnyZ_done (by kernel_rfl) ?_ _
              clear hHeld
              as_aux_lemma =>
              go_wp2_with fail
              go_meet
              exact ⟨p, q, rfl, rfl, HT.1, HT.2, zp, zq, HBF⟩
          · go_simp
            obtain ⟨w71, hw⟩ : ∃ W, World.alloc w61 (.cells eff0 tEff) = W := ⟨_, rfl⟩
            rw [hw]
            obtain ⟨hk, hb, hbz⟩ := alloc_here hw
            obtain ⟨p, hp1⟩ : ∃ p, w61.heap.size = p := ⟨_, rfl⟩
            rw [hp1]
            have HK1 := Lib.hid hk
            rw [hp1] at HK1
            have hp1a := Nat.le_of_eq hp1
            have hp1b := Nat.le_of_eq hp1.symm
            replace hbz := Nat.le_of_eq hbz.symm
            clear hp1
            replace HF1 := Lib.hid (HF1.out.below hb)
            have HB71 := Lib.hid (HB61.out.trans (hb.mono HB61.out.size))
            clear hk hb hw
            refine hK.out _ _ (fun _ => HS6.out _ HB71.out) (fun hHeld => ?_)
            replace hHeld := hHeld (by decide)
            clear hK K
            try simp only [Act.put, zA, zB, zC]
            refine wpAnyZ_two (i := 5) (j := 7) (by kernel_rfl) rfl rfl (fun K hK => ?_) (fun K hK => ?_)
            · go_simp
              go_at_call 13
              refine (EX2.out _ HB71.out).mono ?_
              rintro e w72 ⟨u2, rfl, hf, hb⟩
              have hbz := hb.size
              replace HF1 := Lib.hid (HF1.out.below hb)
              replace HK1 := Lib.hid ((hb.block _ (Array.getElem?_eq_some_iff.1 HK1.out).1).trans HK1.out)
              have HF2 := Lib.hid hf.lt
              have HB72 := Lib.hid (HB71.out.trans (hb.mono HB71.out.size))
              clear hf hb
              refine hK.out _ _ (fun _ => HS6.out _ HB72.out) (fun hHeld => ?_)
              replace hHeld := hHeld (by decide)
              clear hK K
              try simp only [Act.put, zA, zB, zC]
              refine wpAnyZ_oneL (i := 7) (by kernel_rfl) rfl (fun K hK => ?_)
              go_simp
              obtain ⟨w73, hw⟩ : ∃ W, World.alloc w72 (.cells eff0 tEff) = W := ⟨_, rfl⟩
              rw [hw]
              obtain ⟨hk, hb, hbz⟩ := alloc_here hw
              obtain ⟨q, hp2⟩ : ∃ p, w72.heap.size = p := ⟨_, rfl⟩
              rw [hp2]
              have HK2 := Lib.hid hk
              rw [hp2] at HK2
              have hp2a := Nat.le_of_eq hp2
              have hp2b := Nat.le_of_eq hp2.symm
              replace hbz := Nat.le_of_eq hbz.symm
              clear hp2
              replace HF1 := Lib.hid (HF1.out.below hb)
              replace HK1 := Lib.hid ((hb.block _ (Array.getElem?_eq_some_iff.1 HK1.out).1).trans HK1.out)
              replace HF2 := Lib.hid (HF2.out.below hb)
              have HB73 := Lib.hid (HB72.out.trans (hb.mono HB72.out.size))
              clear hk hb hw
              refine hK.out _ _ (fun _ => HS6.out _ HB73.out) (fun hHeld => ?_)
              replace hHeld := hHeld (by decide)
              clear hK K
              try simp only [Act.put, zA, zB, zC]
              have zb := HB60.out.size
              have hpq : p ≠ q := by omega
              have zp : w6.heap.size ≤ p := by omega
              have zq : w6.heap.size ≤ q := by omega
              replace HF1 := Lib.hid (HF1.out.mono (B' := fun b => b ≠ p ∧ b ≠ q) (fun b hb => ⟨by omega, by omega⟩))
              replace HF2 := Lib.hid (HF2.out.mono (B' := fun b => b ≠ p ∧ b ≠ q) (fun b hb => ⟨by omega, by omega⟩))
              obtain ⟨x1, rfl, n1, o1⟩ := HF1.out.cells
              obtain ⟨x2, rfl, n2, o2⟩ := HF2.out.cells
              refine wpAnyZ_oneL (i := 8) (by kernel_rfl) rfl (fun K hK => ?_)
              rw [if_pos (by rfl)]
              refine wp_store_rowM tEff (.tmp 6) (.tmp 23) rfl p rfl tEff eff0 HK1.out (.agg x1) rfl (by kernel_rfl) n1 o1 ?_
              intro w74 hA
              refine hK.out _ _ (fun _ => HS6.out _ (HB73.out.trans (hA.below zp))) (fun hHeld => ?_)
              replace hHeld := hHeld (by decide)
              clear hK K
              try simp only [Act.put]
              refine wpAnyZ_oneL (i := 9) (by kernel_rfl) rfl (fun K hK => ?_)
              rw [if_pos (by rfl)]
              refine wp_store_rowM tEff (.tmp 7) (.tmp 26) rfl q rfl tEff eff0 ((hA.block q (fun e => hpq e.symm)).trans HK2.out) (.agg x2) rfl (by kernel_rfl) n2 o2 ?_
              intro w75 hB
              have HT := two_effs HF1.out HF2.out (fun _ h => h) (fun _ h => h) hpq hA hB
              have HBF := (HB73.out.trans (hA.below zp)).trans (hB.below zq)
              refine hK.out _ _ (fun _ => HS6.out _ HBF) (fun hHeld => ?_)
              replace hHeld := hHeld (by decide)
              clear hK K
              try simp only [Act.put]
              refine wpAnyZ_done (by kernel_rfl) ?_ _
              clear hHeld
              as_aux_lemma =>
              go_wp2_with fail
              go_meet
              exact ⟨p, q, rfl, rfl, HT.1, HT.2, zp, zq, HBF⟩
            · go_simp
              obtain ⟨w76, hw⟩ : ∃ W, World.alloc w71 (.cells eff0 tEff) = W := ⟨_, rfl⟩
              rw [hw]
              obtain ⟨hk, hb, hbz⟩ := alloc_here hw
              obtain ⟨q, hp2⟩ : ∃ p, w71.heap.size = p := ⟨_, rfl⟩
              rw [hp2]
              have HK2 := Lib.hid hk
              rw [hp2] at HK2
              have hp2a := Nat.le_of_eq hp2
              have hp2b := Nat.le_of_eq hp2.symm
              replace hbz := Nat.le_of_eq hbz.symm
              clear hp2
              replace HF1 := Lib.hid (HF1.out.below hb)
              replace HK1 := Lib.hid ((hb.block _ (Array.getElem?_eq_some_iff.1 HK1.out).1).trans HK1.out)
              have HB76 := Lib.hid (HB71.out.trans (hb.mono HB71.out.size))
              clear hk hb hw
              refine hK.out _ _ (fun _ => HS6.out _ HB76.out) (fun hHeld => ?_)
              replace hHeld := hHeld (by decide)
              clear hK K
              try simp only [Act.put, zA, zB, zC]
              refine wpAnyZ_oneL (i := 5) (by kernel_rfl) rfl (fun K hK => ?_)
              go_simp
              go_at_call 13
              refine (EX2.out _ HB76.out).mono ?_
              rintro e w77 ⟨u2, rfl, hf, hb⟩
              have hbz := hb.size
              replace HF1 := Lib.hid (HF1.out.below hb)
              replace HK1 := Lib.hid ((hb.block _ (Array.getElem?_eq_some_iff.1 HK1.out).1).trans HK1.out)
              replace HK2 := Lib.hid ((hb.block _ (Array.getElem?_eq_some_iff.1 HK2.out).1).trans HK2.out)
              have HF2 := Lib.hid hf.lt
              have HB77 := Lib.hid (HB76.out.trans (hb.mono HB76.out.size))
              clear hf hb
              refine hK.out _ _ (fun _ => HS6.out _ HB77.out) (fun hHeld => ?_)
              replace hHeld := hHeld (by decide)
              clear hK K
              try simp only [Act.put, zA, zB, zC]
              have zb := HB60.out.size
              have hpq : p ≠ q := by omega
              have zp : w6.heap.size ≤ p := by omega
              have zq : w6.heap.size ≤ q := by omega
              replace HF1 := Lib.hid (HF1.out.mono (B' := fun b => b ≠ p ∧ b ≠ q) (fun b hb => ⟨by omega, by omega⟩))
              replace HF2 := Lib.hid (HF2.out.mono (B' := fun b => b ≠ p ∧ b ≠ q) (fun b hb => ⟨by omega, by omega⟩))
              obtain ⟨x1, rfl, n1, o1⟩ := HF1.out.cells
              obtain ⟨x2, rfl, n2, o2⟩ := HF2.out.cells
              refine wpAnyZ_oneL (i := 8) (by kernel_rfl) rfl (fun K hK => ?_)
              rw [if_pos (by rfl)]
              refine wp_store_rowM tEff (.tmp 6) (.tmp 23) rfl p rfl tEff eff0 HK1.out (.agg x1) rfl (by kernel_rfl) n1 o1 ?_
              intro w78 hA
              refine hK.out _ _ (fun _ => HS6.out _ (HB77.out.trans (hA.below zp))) (fun hHeld => ?_)
              replace hHeld := hHeld (by decide)
              clear hK K
              try simp only [Act.put]
              refine wpAnyZ_oneL (i := 9) (by kernel_rfl) rfl (fun K hK => ?_)
              rw [if_pos (by rfl)]
              refine wp_store_rowM tEff (.tmp 7) (.tmp 26) rfl q rfl tEff eff0 ((hA.block q (fun e => hpq e.symm)).trans HK2.out) (.agg x2) rfl (by kernel_rfl) n2 o2 ?_
              intro w79 hB
              have HT := two_effs HF1.out HF2.out (fun _ h => h) (fun _ h => h) hpq hA hB
              have HBF := (HB77.out.trans (hA.below zp)).trans (hB.below zq)
              refine hK.out _ _ (fun _ => HS6.out _ HBF) (fun hHeld => ?_)
              replace hHeld := hHeld (by decide)
              clear hK K
              try simp only [Act.put]
              refine wpAnyZ_done (by kernel_rfl) ?_ _
              clear hHeld
              as_aux_lemma =>
              go_wp2_with fail
              go_meet
              exact ⟨p, q, rfl, rfl, HT.1, HT.2, zp, zq, HBF⟩
          · go_simp
            obtain ⟨w80, hw⟩ : ∃ W, World.alloc w61 (.cells eff0 tEff) = W := ⟨_, rfl⟩
            rw [hw]
            obtain ⟨hk, hb, hbz⟩ := alloc_here hw
            obtain ⟨q, hp2⟩ : ∃ p, w61.heap.size = p := ⟨_, rfl⟩
            rw [hp2]
            have HK2 := Lib.hid hk
            rw [hp2] at HK2
            have hp2a := Nat.le_of_eq hp2
            have hp2b := Nat.le_of_eq hp2.symm
            replace hbz := Nat.le_of_eq hbz.symm
            clear hp2
            replace HF1 := Lib.hid (HF1.out.below hb)
            have HB80 := Lib.hid (HB61.out.trans (hb.mono HB61.out.size))
            clear hk hb hw
            refine hK.out _ _ (fun _ => HS6.out _ HB80.out) (fun hHeld => ?_)
            replace hHeld := hHeld (by decide)
            clear hK K
            try simp only [Act.put, zA, zB, zC]
            refine wpAnyZ_two (i := 5) (j := 6) (by kernel_rfl) rfl rfl (fun K hK => ?_) (fun K hK => ?_)
            · go_simp
              go_at_call 13
              refine (EX2.out _ HB80.out).mono ?_
              rintro e w81 ⟨u2, rfl, hf, hb⟩
              have hbz := hb.size
              replace HF1 := Lib.hid (HF1.out.below hb)
              replace HK2 := Lib.hid ((hb.block _ (Array.getElem?_eq_some_iff.1 HK2.out).1).trans HK2.out)
              have HF2 := Lib.hid hf.lt
              have HB81 := Lib.hid (HB80.out.trans (hb.mono HB80.out.size))
              clear hf hb
              refine hK.out _ _ (fun _ => HS6.out _ HB81.out) (fun hHeld => ?_)
              replace hHeld := hHeld (by decide)
              clear hK K
              try simp only [Act.put, zA, zB, zC]
              refine wpAnyZ_oneL (i := 6) (by kernel_rfl) rfl (fun K hK => ?_)
              go_simp
              obtain ⟨w82, hw⟩ : ∃ W, World.alloc w81 (.cells eff0 tEff) = W := ⟨_, rfl⟩
              rw [hw]
              obtain ⟨hk, hb, hbz⟩ := alloc_here hw
              obtain ⟨p, hp1⟩ : ∃ p, w81.heap.size = p := ⟨_, rfl⟩
              rw [hp1]
              have HK1 := Lib.hid hk
              rw [hp1] at HK1
              have hp1a := Nat.le_of_eq hp1
              have hp1b := Nat.le_of_eq hp1.symm
              replace hbz := Nat.le_of_eq hbz.symm
              clear hp1
              replace HF1 := Lib.hid (HF1.out.below hb)
              replace HF2 := Lib.hid (HF2.out.below hb)
              replace HK2 := Lib.hid ((hb.block _ (Array.getElem?_eq_some_iff.1 HK2.out).1).trans HK2.out)
              have HB82 := Lib.hid (HB81.out.trans (hb.mono HB81.out.size))
              clear hk hb hw
              refine hK.out _ _ (fun _ => HS6.out _ HB82.out) (fun hHeld => ?_)
              replace hHeld := hHeld (by decide)
              clear hK K
              try simp only [Act.put, zA, zB, zC]
              have zb := HB60.out.size
              have hpq : p ≠ q := by omega
              have zp : w6.heap.size ≤ p := by omega
              have zq : w6.heap.size ≤ q := by omega
              replace HF1 := Lib.hid (HF1.out.mono (B' := fun b => b ≠ p ∧ b ≠ q) (fun b hb => ⟨by omega, by omega⟩))
              replace HF2 := Lib.hid (HF2.out.mono (B' := fun b => b ≠ p ∧ b ≠ q) (fun b hb => ⟨by omega, by omega⟩))
              obtain ⟨x1, rfl, n1, o1⟩ := HF1.out.cells
              obtain ⟨x2, rfl, n2, o2⟩ := HF2.out.cells
              refine wpAnyZ_oneL (i := 8) (by kernel_rfl) rfl (fun K hK => ?_)
              rw [if_pos (by rfl)]
              refine wp_store_rowM tEff (.tmp 6) (.tmp 23) rfl p rfl tEff eff0 HK1.out (.agg x1) rfl (by kernel_rfl) n1 o1 ?_
              intro w83 hA
              refine hK.out _ _ (fun _ => HS6.out _ (HB82.out.trans (hA.below zp))) (fun hHeld => ?_)
              replace hHeld := hHeld (by decide)
              clear hK K
              try simp only [Act.put]
              refine wpAnyZ_oneL (i := 9) (by kernel_rfl) rfl (fun K hK => ?_)
              rw [if_pos (by rfl)]
              refine wp_store_rowM tEff (.tmp 7) (.tmp 26) rfl q rfl tEff eff0 ((hA.block q (fun e => hpq e.symm)).trans HK2.out) (.agg x2) rfl (by kernel_rfl) n2 o2 ?_
              intro w84 hB
              have HT := two_effs HF1.out HF2.out (fun _ h => h) (fun _ h => h) hpq hA hB
              have HBF := (HB82.out.trans (hA.below zp)).trans (hB.below zq)
              refine hK.out _ _ (fun _ => HS6.out _ HBF) (fun hHeld => ?_)
              replace hHeld := hHeld (by decide)
              clear hK K
              try simp only [Act.put]
              refine wpAnyZ_done (by kernel_rfl) ?_ _
              clear hHeld
              as_aux_lemma =>
              go_wp2_with fail
              go_meet
              exact ⟨p, q, rfl, rfl, HT.1, HT.2, zp, zq, HBF⟩
            · go_simp
              obtain ⟨w85, hw⟩ : ∃ W, World.alloc w80 (.cells eff0 tEff) = W := ⟨_, rfl⟩
              rw [hw]
              obtain ⟨hk, hb, hbz⟩ := alloc_here hw
              obtain ⟨p, hp1⟩ : ∃ p, w80.heap.size = p := ⟨_, rfl⟩
              rw [hp1]
              have HK1 := Lib.hid hk
              rw [hp1] at HK1
              have hp1a := Nat.le_of_eq hp1
              have hp1b := Nat.le_of_eq hp1.symm
              replace hbz := Nat.le_of_eq hbz.symm
              clear hp1
              replace HF1 := Lib.hid (HF1.out.below hb)
              replace HK2 := Lib.hid ((hb.block _ (Array.getElem?_eq_some_iff.1 HK2.out).1).trans HK2.out)
              have HB85 := Lib.hid (HB80.out.trans (hb.mono HB80.out.size))
              clear hk hb hw
              refine hK.out _ _ (fun _ => HS6.out _ HB85.out) (fun hHeld => ?_)
              replace hHeld := hHeld (by decide)
              clear hK K
              try simp only [Act.put, zA, zB, zC]
              refine wpAnyZ_oneL (i := 5) (by kernel_rfl) rfl (fun K hK => ?_)
              go_simp
              go_at_call 13
              refine (EX2.out _ HB85.out).mono ?_
              rintro e w86 ⟨u2, rfl, hf, hb⟩
              have hbz := hb.size
              replace HF1 := Lib.hid (HF1.out.below hb)
              replace HK1 := Lib.hid ((hb.block _ (Array.getElem?_eq_some_iff.1 HK1.out).1).trans HK1.out)
              replace HK2 := Lib.hid ((hb.block _ (Array.getElem?_eq_some_iff.1 HK2.out).1).trans HK2.out)
              have HF2 := Lib.hid hf.lt
              have HB86 := Lib.hid (HB85.out.trans (hb.mono HB85.out.size))
              clear hf hb
              refine hK.out _ _ (fun _ => HS6.out _ HB86.out) (fun hHeld => ?_)
              replace hHeld := hHeld (by decide)
              clear hK K
              try simp only [Act.put, zA, zB, zC]
              have zb := HB60.out.size
              have hpq : p ≠ q := by omega
              have zp : w6.heap.size ≤ p := by omega
              have zq : w6.heap.size ≤ q := by omega
              replace HF1 := Lib.hid (HF1.out.mono (B' := fun b => b ≠ p ∧ b ≠ q) (fun b hb => ⟨by omega, by omega⟩))
              replace HF2 := Lib.hid (HF2.out.mono (B' := fun b => b ≠ p ∧ b ≠ q) (fun b hb => ⟨by omega, by omega⟩))
              obtain ⟨x1, rfl, n1, o1⟩ := HF1.out.cells
              obtain ⟨x2, rfl, n2, o2⟩ := HF2.out.cells
              refine wpAnyZ_oneL (i := 8) (by kernel_rfl) rfl (fun K hK => ?_)
              rw [if_pos (by rfl)]
              refine wp_store_rowM tEff (.tmp 6) (.tmp 23) rfl p rfl tEff eff0 HK1.out (.agg x1) rfl (by kernel_rfl) n1 o1 ?_
              intro w87 hA
              refine hK.out _ _ (fun _ => HS6.out _ (HB86.out.trans (hA.below zp))) (fun hHeld => ?_)
              replace hHeld := hHeld (by decide)
              clear hK K
              try simp only [Act.put]
              refine wpAnyZ_oneL (i := 9) (by kernel_rfl) rfl (fun K hK => ?_)
              rw [if_pos (by rfl)]
              refine wp_store_rowM tEff (.tmp 7) (.tmp 26) rfl q rfl tEff eff0 ((hA.block q (fun e => hpq e.symm)).trans HK2.out) (.agg x2) rfl (by kernel_rfl) n2 o2 ?_
              intro w88 hB
              have HT := two_effs HF1.out HF2.out (fun _ h => h) (fun _ h => h) hpq hA hB
              have HBF := (HB86.out.trans (hA.below zp)).trans (hB.below zq)
              refine hK.out _ _ (fun _ => HS6.out _ HBF) (fun hHeld => ?_)
              replace hHeld := hHeld (by decide)
              clear hK K
              try simp only [Act.put]
              refine wpAnyZ_done (by kernel_rfl) ?_ _
              clear hHeld
              as_aux_lemma =>
              go_wp2_with fail
              go_meet
              exact ⟨p, q, rfl, rfl, HT.1, HT.2, zp, zq, HBF⟩
        · go_simp
          obtain ⟨w89, hw⟩ : ∃ W, World.alloc w60 (.cells eff0 tEff) = W := ⟨_, rfl⟩
          rw [hw]
          obtain ⟨hk, hb, hbz⟩ := alloc_here hw
          obtain ⟨p, hp1⟩ : ∃ p, w60.heap.size = p := ⟨_, rfl⟩
          rw [hp1]
          have HK1 := Lib.hid hk
          rw [hp1] at HK1
          have hp1a := Nat.le_of_eq hp1
          have hp1b := Nat.le_of_eq hp1.symm
          replace hbz := Nat.le_of_eq hbz.symm
          clear hp1
          have HB89 := Lib.hid (HB60.out.trans (hb.mono HB60.out.size))
          clear hk hb hw
          refine hK.out _ _ (fun _ => HS6.out _ HB89.out) (fun hHeld => ?_)
          replace hHeld := hHeld (by decide)
          clear hK K
          try simp only [Act.put, zA, zB, zC]
          refine wpAnyZ_two (i := 2) (j := 7) (by kernel_rfl) rfl rfl (fun K hK => ?_) (fun K hK => ?_)
          · go_simp
            go_at_call 13
            refine (EX1.out _ HB89.out).mono ?_
            rintro e w90 ⟨u1, rfl, hf, hb⟩
            have hbz := hb.size
            replace HK1 := Lib.hid ((hb.block _ (Array.getElem?_eq_some_iff.1 HK1.out).1).trans HK1.out)
            have HF1 := Lib.hid hf.lt
            have HB90 := Lib.hid (HB89.out.trans (hb.mono HB89.out.size))
            clear hf hb
            refine hK.out _ _ (fun _ => HS6.out _ HB90.out) (fun hHeld => ?_)
            replace hHeld := hHeld (by decide)
            clear hK K
            try simp only [Act.put, zA, zB, zC]
            refine wpAnyZ_two (i := 5) (j := 7) (by kernel_rfl) rfl rfl (fun K hK => ?_) (fun K hK => ?_)
            · go_simp
              go_at_call 13
              refine (EX2.out _ HB90.out).mono ?_
              rintro e w91 ⟨u2, rfl, hf, hb⟩
              have hbz := hb.size
              replace HF1 := Lib.hid (HF1.out.below hb)
              replace HK1 := Lib.hid ((hb.block _ (Array.getElem?_eq_some_iff.1 HK1.out).1).trans HK1.out)
              have HF2 := Lib.hid hf.lt
              have HB91 := Lib.hid (HB90.out.trans (hb.mono HB90.out.size))
              clear hf hb
              refine hK.out _ _ (fun _ => HS6.out _ HB91.out) (fun hHeld => ?_)
              replace hHeld := hHeld (by decide)
              clear hK K
              try simp only [Act.put, zA, zB, zC]
              refine wpAnyZ_oneL (i := 7) (by kernel_rfl) rfl (fun K hK => ?_)
              go_simp
              obtain ⟨w92, hw⟩ : ∃ W, World.alloc w91 (.cells eff0 tEff) = W := ⟨_, rfl⟩
              rw [hw]
              obtain ⟨hk, hb, hbz⟩ := alloc_here hw
              obtain ⟨q, hp2⟩ : ∃ p, w91.heap.size = p := ⟨_, rfl⟩
              rw [hp2]
              have HK2 := Lib.hid hk
              rw [hp2] at HK2
              have hp2a := Nat.le_of_eq hp2
              have hp2b := Nat.le_of_eq hp2.symm
              replace hbz := Nat.le_of_eq hbz.symm
              clear hp2
              replace HF1 := Lib.hid (HF1.out.below hb)
              replace HK1 := Lib.hid ((hb.block _ (Array.getElem?_eq_some_iff.1 HK1.out).1).trans HK1.out)
              replace HF2 := Lib.hid (HF2.out.below hb)
              have HB92 := Lib.hid (HB91.out.trans (hb.mono HB91.out.size))
              clear hk hb hw
              refine hK.out _ _ (fun _ => HS6.out _ HB92.out) (fun hHeld => ?_)
              replace hHeld := hHeld (by decide)
              clear hK K
              try simp only [Act.put, zA, zB, zC]
              have zb := HB60.out.size
              have hpq : p ≠ q := by omega
              have zp : w6.heap.size ≤ p := by omega
              have zq : w6.heap.size ≤ q := by omega
              replace HF1 := Lib.hid (HF1.out.mono (B' := fun b => b ≠ p ∧ b ≠ q) (fun b hb => ⟨by omega, by omega⟩))
              replace HF2 := Lib.hid (HF2.out.mono (B' := fun b => b ≠ p ∧ b ≠ q) (fun b hb => ⟨by omega, by omega⟩))
              obtain ⟨x1, rfl, n1, o1⟩ := HF1.out.cells
              obtain ⟨x2, rfl, n2, o2⟩ := HF2.out.cells
              refine wpAnyZ_oneL (i := 8) (by kernel_rfl) rfl (fun K hK => ?_)
              rw [if_pos (by rfl)]
              refine wp_store_rowM tEff (.tmp 6) (.tmp 23) rfl p rfl tEff eff0 HK1.out (.agg x1) rfl (by kernel_rfl) n1 o1 ?_
              intro w93 hA
              refine hK.out _ _ (fun _ => HS6.out _ (HB92.out.trans (hA.below zp))) (fun hHeld => ?_)
              replace hHeld := hHeld (by decide)
              clear hK K
              try simp only [Act.put]
              refine wpAnyZ_oneL (i := 9) (by kernel_rfl) rfl (fun K hK => ?_)
              rw [if_pos (by rfl)]
              refine wp_store_rowM tEff (.tmp 7) (.tmp 26) rfl q rfl tEff eff0 ((hA.block q (fun e => hpq e.symm)).trans HK2.out) (.agg x2) rfl (by kernel_rfl) n2 o2 ?_
              intro w94 hB
              have HT := two_effs HF1.out HF2.out (fun _ h => h) (fun _ h => h) hpq hA hB
              have HBF := (HB92.out.trans (hA.below zp)).trans (hB.below zq)
              refine hK.out _ _ (fun _ => HS6.out _ HBF) (fun hHeld => ?_)
              replace hHeld := hHeld (by decide)
              clear hK K
              try simp only [Act.put]
              refine wpAnyZ_done (by kernel_rfl) ?_ _
              clear hHeld
              as_aux_lemma =>
              go_wp2_with fail
              go_meet
              exact ⟨p, q, rfl, rfl, HT.1, HT.2, zp, zq, HBF⟩
            · go_simp
              obtain ⟨w95, hw⟩ : ∃ W, World.alloc w90 (.cells eff0 tEff) = W := ⟨_, rfl⟩
              rw [hw]
              obtain ⟨hk, hb, hbz⟩ := alloc_here hw
              obtain ⟨q, hp2⟩ : ∃ p, w90.heap.size = p := ⟨_, rfl⟩
              rw [hp2]
              have HK2 := Lib.hid hk
              rw [hp2] at HK2
              have hp2a := Nat.le_of_eq hp2
              have hp2b := Nat.le_of_eq hp2.symm
              replace hbz := Nat.le_of_eq hbz.symm
              clear hp2
              replace HF1 := Lib.hid (HF1.out.below hb)
              replace HK1 := Lib.hid ((hb.block _ (Array.getElem?_eq_some_iff.1 HK1.out).1).trans HK1.out)
              have HB95 := Lib.hid (HB90.out.trans (hb.mono HB90.out.size))
              clear hk hb hw
              refine hK.out _ _ (fun _ => HS6.out _ HB95.out) (fun hHeld => ?_)
              replace hHeld := hHeld (by decide)
              clear hK K
              try simp only [Act.put, zA, zB, zC]
              refine wpAnyZ_oneL (i := 5) (by kernel_rfl) rfl (fun K hK => ?_)
              go_simp
              go_at_call 13
              refine (EX2.out _ HB95.out).mono ?_
              rintro e w96 ⟨u2, rfl, hf, hb⟩
              have hbz := hb.size
              replace HF1 := Lib.hid (HF1.out.below hb)
              replace HK1 := Lib.hid ((hb.block _ (Array.getElem?_eq_some_iff.1 HK1.out).1).trans HK1.out)
              replace HK2 := Lib.hid ((hb.block _ (Array.getElem?_eq_some_iff.1 HK2.out).1).trans HK2.out)
              have HF2 := Lib.hid hf.lt
              have HB96 := Lib.hid (HB95.out.trans (hb.mono HB95.out.size))
              clear hf hb
              refine hK.out _ _ (fun _ => HS6.out _ HB96.out) (fun hHeld => ?_)
              replace hHeld := hHeld (by decide)
              clear hK K
              try simp only [Act.put, zA, zB, zC]
              have zb := HB60.out.size
              have hpq : p ≠ q := by omega
              have zp : w6.heap.size ≤ p := by omega
              have zq : w6.heap.size ≤ q := by omega
              replace HF1 := Lib.hid (HF1.out.mono (B' := fun b => b ≠ p ∧ b ≠ q) (fun b hb => ⟨by omega, by omega⟩))
              replace HF2 := Lib.hid (HF2.out.mono (B' := fun b => b ≠ p ∧ b ≠ q) (fun b hb => ⟨by omega, by omega⟩))
              obtain ⟨x1, rfl, n1, o1⟩ := HF1.out.cells
              obtain ⟨x2, rfl, n2, o2⟩ := HF2.out.cells
              refine wpAnyZ_oneL (i := 8) (by kernel_rfl) rfl (fun K hK => ?_)
              rw [if_pos (by rfl)]
              refine wp_store_rowM tEff (.tmp 6) (.tmp 23) rfl p rfl tEff eff0 HK1.out (.agg x1) rfl (by kernel_rfl) n1 o1 ?_
              intro w97 hA
              refine hK.out _ _ (fun _ => HS6.out _ (HB96.out.trans (hA.below zp))) (fun hHeld => ?_)
              replace hHeld := hHeld (by decide)
              clear hK K
              try simp only [Act.put]
              refine wpAnyZ_oneL (i := 9) (by kernel_rfl) rfl (fun K hK => ?_)
              rw [if_pos (by rfl)]
              refine wp_store_rowM tEff (.tmp 7) (.tmp 26) rfl q rfl tEff eff0 ((hA.block q (fun e => hpq e.symm)).trans HK2.out) (.agg x2) rfl (by kernel_rfl) n2 o2 ?_
              intro w98 hB
              have HT := two_effs HF1.out HF2.out (fun _ h => h) (fun _ h => h) hpq hA hB
              have HBF := (HB96.out.trans (hA.below zp)).trans (hB.below zq)
              refine hK.out _ _ (fun _ => HS6.out _ HBF) (fun hHeld => ?_)
              replace hHeld := hHeld (by decide)
              clear hK K
              try simp only [Act.put]
              refine wpAnyZ_done (by kernel_rfl) ?_ _
              clear hHeld
              as_aux_lemma =>
              go_wp2_with fail
              go_meet
              exact ⟨p, q, rfl, rfl, HT.1, HT.2, zp, zq, HBF⟩
          · go_simp
            obtain ⟨w99, hw⟩ : ∃ W, World.alloc w89 (.cells eff0 tEff) = W := ⟨_, rfl⟩
            rw [hw]
            obtain ⟨hk, hb, hbz⟩ := alloc_here hw
            obtain ⟨q, hp2⟩ : ∃ p, w89.heap.size = p := ⟨_, rfl⟩
            rw [hp2]
            have HK2 := Lib.hid hk
            rw [hp2] at HK2
            have hp2a := Nat.le_of_eq hp2
            have hp2b := Nat.le_of_eq hp2.symm
            replace hbz := Nat.le_of_eq hbz.symm
            clear hp2
            replace HK1 := Lib.hid ((hb.block _ (Array.getElem?_eq_some_iff.1 HK1.out).1).trans HK1.out)
            have HB99 := Lib.hid (HB89.out.trans (hb.mono HB89.out.size))
            clear hk hb hw
            refine hK.out _ _ (fun _ => HS6.out _ HB99.out) (fun hHeld => ?_)
            replace hHeld := hHeld (by decide)
            clear hK K
            try simp only [Act.put, zA, zB, zC]
            refine wpAnyZ_oneL (i := 2) (by kernel_rfl) rfl (fun K hK => ?_)
            go_simp
            go_at_call 13
            refine (EX1.out _ HB99.out).mono ?_
            rintro e w100 ⟨u1, rfl, hf, hb⟩
            have hbz := hb.size
            replace HK1 := Lib.hid ((hb.block _ (Array.getElem?_eq_some_iff.1 HK1.out).1).trans HK1.out)
            replace HK2 := Lib.hid ((hb.block _ (Array.getElem?_eq_some_iff.1 HK2.out).1).trans HK2.out)
            have HF1 := Lib.hid hf.lt
            have HB100 := Lib.hid (HB99.out.trans (hb.mono HB99.out.size))
            clear hf hb
            refine hK.out _ _ (fun _ => HS6.out _ HB100.out) (fun hHeld => ?_)
            replace hHeld := hHeld (by decide)
            clear hK K
            try simp only [Act.put, zA, zB, zC]
            refine wpAnyZ_oneL (i := 5) (by kernel_rfl) rfl (fun K hK => ?_)
            go_simp
            go_at_call 13
            refine (EX2.out _ HB100.out).mono ?_
            rintro e w101 ⟨u2, rfl, hf, hb⟩
            have hbz := hb.size
            replace HF1 := Lib.hid (HF1.out.below hb)
            replace HK1 := Lib.hid ((hb.block _ (Array.getElem?_eq_some_iff.1 HK1.out).1).trans HK1.out)
            replace HK2 := Lib.hid ((hb.block _ (Array.getElem?_eq_some_iff.1 HK2.out).1).trans HK2.out)
            have HF2 := Lib.hid hf.lt
            have HB101 := Lib.hid (HB100.out.trans (hb.mono HB100.out.size))
            clear hf hb
            refine hK.out _ _ (fun _ => HS6.out _ HB101.out) (fun hHeld => ?_)
            replace hHeld := hHeld (by decide)
            clear hK K
            try simp only [Act.put, zA, zB, zC]
            have zb := HB60.out.size
            have hpq : p ≠ q := by omega
            have zp : w6.heap.size ≤ p := by omega
            have zq : w6.heap.size ≤ q := by omega
            replace HF1 := Lib.hid (HF1.out.mono (B' := fun b => b ≠ p ∧ b ≠ q) (fun b hb => ⟨by omega, by omega⟩))
            replace HF2 := Lib.hid (HF2.out.mono (B' := fun b => b ≠ p ∧ b ≠ q) (fun b hb => ⟨by omega, by omega⟩))
            obtain ⟨x1, rfl, n1, o1⟩ := HF1.out.cells
            obtain ⟨x2, rfl, n2, o2⟩ := HF2.out.cells
            refine wpAnyZ_oneL (i := 8) (by kernel_rfl) rfl (fun K hK => ?_)
            rw [if_pos (by rfl)]
            refine wp_store_rowM tEff (.tmp 6) (.tmp 23) rfl p rfl tEff eff0 HK1.out (.agg x1) rfl (by kernel_rfl) n1 o1 ?_
            intro w102 hA
            refine hK.out _ _ (fun _ => HS6.out _ (HB101.out.trans (hA.below zp))) (fun hHeld => ?_)
            replace hHeld := hHeld (by decide)
            clear hK K
            try simp only [Act.put]
            refine wpAnyZ_oneL (i := 9) (by kernel_rfl) rfl (fun K hK => ?_)
            rw [if_pos (by rfl)]
            refine wp_store_rowM tEff (.tmp 7) (.tmp 26) rfl q rfl tEff eff0 ((hA.block q (fun e => hpq e.symm)).trans HK2.out) (.agg x2) rfl (by kernel_rfl) n2 o2 ?_
            intro w103 hB
            have HT := two_effs HF1.out HF2.out (fun _ h => h) (fun _ h => h) hpq hA hB
            have HBF := (HB101.out.trans (hA.below zp)).trans (hB.below zq)
            refine hK.out _ _ (fun _ => HS6.out _ HBF) (fun hHeld => ?_)
            replace hHeld := hHeld (by decide)
            clear hK K
            try simp only [Act.put]
            refine wpAnyZ_done (by kernel_rfl) ?_ _
            clear hHeld
            as_aux_lemma =>
            go_wp2_with fail
            go_meet
            exact ⟨p, q, rfl, rfl, HT.1, HT.2, zp, zq, HBF⟩
        · go_simp
          obtain ⟨w104, hw⟩ : ∃ W, World.alloc w60 (.cells eff0 tEff) = W := ⟨_, rfl⟩
          rw [hw]
          obtain ⟨hk, hb, hbz⟩ := alloc_here hw
          obtain ⟨q, hp2⟩ : ∃ p, w60.heap.size = p := ⟨_, rfl⟩
          rw [hp2]
          have HK2 := Lib.hid hk
          rw [hp2] at HK2
          have hp2a := Nat.le_of_eq hp2
          have hp2b := Nat.le_of_eq hp2.symm
          replace hbz := Nat.le_of_eq hbz.symm
          clear hp2
          have HB104 := Lib.hid (HB60.out.trans (hb.mono HB60.out.size))
          clear hk hb hw
          refine hK.out _ _ (fun _ => HS6.out _ HB104.out) (fun hHeld => ?_)
          replace hHeld := hHeld (by decide)
          clear hK K
          try simp only [Act.put, zA, zB, zC]
          refine wpAnyZ_two (i := 2) (j := 6) (by kernel_rfl) rfl rfl (fun K hK => ?_) (fun K hK => ?_)
          · go_simp
            go_at_call 13
            refine (EX1.out _ HB104.out).mono ?_
            rintro e w105 ⟨u1, rfl, hf, hb⟩
            have hbz := hb.size
            replace HK2 := Lib.hid ((hb.block _ (Array.getElem?_eq_some_iff.1 HK2.out).1).trans HK2.out)
            have HF1 := Lib.hid hf.lt
            have HB105 := Lib.hid (HB104.out.trans (hb.mono HB104.out.size))
            clear hf hb
            refine hK.out _ _ (fun _ => HS6.out _ HB105.out) (fun hHeld => ?_)
            replace hHeld := hHeld (by decide)
            clear hK K
            try simp only [Act.put, zA, zB, zC]
            refine wpAnyZ_two (i := 5) (j := 6) (by kernel_rfl) rfl rfl (fun K hK => ?_) (fun K hK => ?_)
            · go_simp
              go_at_call 13
              refine (EX2.out _ HB105.out).mono ?_
              rintro e w106 ⟨u2, rfl, hf, hb⟩
              have hbz := hb.size
              replace HF1 := Lib.hid (HF1.out.below hb)
              replace HK2 := Lib.hid ((hb.block _ (Array.getElem?_eq_some_iff.1 HK2.out).1).trans HK2.out)
              have HF2 := Lib.hid hf.lt
              have HB106 := Lib.hid (HB105.out.trans (hb.mono HB105.out.size))
              clear hf hb
              refine hK.out _ _ (fun _ => HS6.out _ HB106.out) (fun hHeld => ?_)
              replace hHeld := hHeld (by decide)
              clear hK K
              try simp only [Act.put, zA, zB, zC]
              refine wpAnyZ_oneL (i := 6) (by kernel_rfl) rfl (fun K hK => ?_)
              go_simp
              obtain ⟨w107, hw⟩ : ∃ W, World.alloc w106 (.cells eff0 tEff) = W := ⟨_, rfl⟩
              rw [hw]
              obtain ⟨hk, hb, hbz⟩ := alloc_here hw
              obtain ⟨p, hp1⟩ : ∃ p, w106.heap.size = p := ⟨_, rfl⟩
              rw [hp1]
              have HK1 := Lib.hid hk
              rw [hp1] at HK1
              have hp1a := Nat.le_of_eq hp1
              have hp1b := Nat.le_of_eq hp1.symm
              replace hbz := Nat.le_of_eq hbz.symm
              clear hp1
              replace HF1 := Lib.hid (HF1.out.below hb)
              replace HF2 := Lib.hid (HF2.out.below hb)
              replace HK2 := Lib.hid ((hb.block _ (Array.getElem?_eq_some_iff.1 HK2.out).1).trans HK2.out)
              have HB107 := Lib.hid (HB106.out.trans (hb.mono HB106.out.size))
              clear hk hb hw
              refine hK.out _ _ (fun _ => HS6.out _ HB107.out) (fun hHeld => ?_)
              replace hHeld := hHeld (by decide)
              clear hK K
              try simp only [Act.put, zA, zB, zC]
              have zb := HB60.out.size
              have hpq : p ≠ q := by omega
              have zp : w6.heap.size ≤ p := by omega
              have zq : w6.heap.size ≤ q := by omega
              replace HF1 := Lib.hid (HF1.out.mono (B' := fun b => b ≠ p ∧ b ≠ q) (fun b hb => ⟨by omega, by omega⟩))
              replace HF2 := Lib.hid (HF2.out.mono (B' := fun b => b ≠ p ∧ b ≠ q) (fun b hb => ⟨by omega, by omega⟩))
              obtain ⟨x1, rfl, n1, o1⟩ := HF1.out.cells
              obtain ⟨x2, rfl, n2, o2⟩ := HF2.out.cells
              refine wpAnyZ_oneL (i := 8) (by kernel_rfl) rfl (fun K hK => ?_)
              rw [if_pos (by rfl)]
              refine wp_store_rowM tEff (.tmp 6) (.tmp 23) rfl p rfl tEff eff0 HK1.out (.agg x1) rfl (by kernel_rfl) n1 o1 ?_
              intro w108 hA
              refine hK.out _ _ (fun _ => HS6.out _ (HB107.out.trans (hA.below zp))) (fun hHeld => ?_)
              replace hHeld := hHeld (by decide)
              clear hK K
              try simp only [Act.put]
              refine wpAnyZ_oneL (i := 9) (by kernel_rfl) rfl (fun K hK => ?_)
              rw [if_pos (by rfl)]
              refine wp_store_rowM tEff (.tmp 7) (.tmp 26) rfl q rfl tEff eff0 ((hA.block q (fun e => hpq e.symm)).trans HK2.out) (.agg x2) rfl (by kernel_rfl) n2 o2 ?_
              intro w109 hB
              have HT := two_effs HF1.out HF2.out (fun _ h => h) (fun _ h => h) hpq hA hB
              have HBF := (HB107.out.trans (hA.below zp)).trans (hB.below zq)
              refine hK.out _ _ (fun _ => HS6.out _ HBF) (fun hHeld => ?_)
              replace hHeld := hHeld (by decide)
              clear hK K
              try simp only [Act.put]
              refine wpAnyZ_done (by kernel_rfl) ?_ _
              clear hHeld
              as_aux_lemma =>
              go_wp2_with fail
              go_meet
              exact ⟨p, q, rfl, rfl, HT.1, HT.2, zp, zq, HBF⟩
            · go_simp
              obtain ⟨w110, hw⟩ : ∃ W, World.alloc w105 (.cells eff0 tEff) = W := ⟨_, rfl⟩
              rw [hw]
              obtain ⟨hk, hb, hbz⟩ := alloc_here hw
              obtain ⟨p, hp1⟩ : ∃ p, w105.heap.size = p := ⟨_, rfl⟩
              rw [hp1]
              have HK1 := Lib.hid hk
              rw [hp1] at HK1
              have hp1a := Nat.le_of_eq hp1
              have hp1b := Nat.le_of_eq hp1.symm
              replace hbz := Nat.le_of_eq hbz.symm
              clear hp1
              replace HF1 := Lib.hid (HF1.out.below hb)
              replace HK2 := Lib.hid ((hb.block _ (Array.getElem?_eq_some_iff.1 HK2.out).1).trans HK2.out)
              have HB110 := Lib.hid (HB105.out.trans (hb.mono HB105.out.size))
              clear hk hb hw
              refine hK.out _ _ (fun _ => HS6.out _ HB110.out) (fun hHeld => ?_)
              replace hHeld := hHeld (by decide)
              clear hK K
              try simp only [Act.put, zA, zB, zC]
              refine wpAnyZ_oneL (i := 5) (by kernel_rfl) rfl (fun K hK => ?_)
              go_simp
              go_at_call 13
              refine (EX2.out _ HB110.out).mono ?_
              rintro e w111 ⟨u2, rfl, hf, hb⟩
              have hbz := hb.size
              replace HF1 := Lib.hid (HF1.out.below hb)
              replace HK1 := Lib.hid ((hb.block _ (Array.getElem?_eq_some_iff.1 HK1.out).1).trans HK1.out)
              replace HK2 := Lib.hid ((hb.block _ (Array.getElem?_eq_some_iff.1 HK2.out).1).trans HK2.out)
              have HF2 := Lib.hid hf.lt
              have HB111 := Lib.hid (HB110.out.trans (hb.mono HB110.out.size))
              clear hf hb
              refine hK.out _ _ (fun _ => HS6.out _ HB111.out) (fun hHeld => ?_)
              replace hHeld := hHeld (by decide)
              clear hK K
              try simp only [Act.put, zA, zB, zC]
              have zb := HB60.out.size
              have hpq : p ≠ q := by omega
              have zp : w6.heap.size ≤ p := by omega
              have zq : w6.heap.size ≤ q := by omega
              replace HF1 := Lib.hid (HF1.out.mono (B' := fun b => b ≠ p ∧ b ≠ q) (fun b hb => ⟨by omega, by omega⟩))
              replace HF2 := Lib.hid (HF2.out.mono (B' := fun b => b ≠ p ∧ b ≠ q) (fun b hb => ⟨by omega, by omega⟩))
              obtain ⟨x1, rfl, n1, o1⟩ := HF1.out.cells
              obtain ⟨x2, rfl, n2, o2⟩ := HF2.out.cells
              refine wpAnyZ_oneL (i := 8) (by kernel_rfl) rfl (fun K hK => ?_)
              rw [if_pos (by rfl)]
              refine wp_store_rowM tEff (.tmp 6) (.tmp 23) rfl p rfl tEff eff0 HK1.out (.agg x1) rfl (by kernel_rfl) n1 o1 ?_
              intro w112 hA
              refine hK.out _ _ (fun _ => HS6.out _ (HB111.out.trans (hA.below zp))) (fun hHeld => ?_)
              replace hHeld := hHeld (by decide)
              clear hK K
              try simp only [Act.put]
              refine wpAnyZ_oneL (i := 9) (by kernel_rfl) rfl (fun K hK => ?_)
              rw [if_pos (by rfl)]
              refine wp_store_rowM tEff (.tmp 7) (.tmp 26) rfl q rfl tEff eff0 ((hA.block q (fun e => hpq e.symm)).trans HK2.out) (.agg x2) rfl (by kernel_rfl) n2 o2 ?_
              intro w113 hB
              have HT := two_effs HF1.out HF2.out (fun _ h => h) (fun _ h => h) hpq hA hB
              have HBF := (HB111.out.trans (hA.below zp)).trans (hB.below zq)
              refine hK.out _ _ (fun _ => HS6.out _ HBF) (fun hHeld => ?_)
              replace hHeld := hHeld (by decide)
              clear hK K
              try simp only [Act.put]
              refine wpAnyZ_done (by kernel_rfl) ?_ _
              clear hHeld
              as_aux_lemma =>
              go_wp2_with fail
              go_meet
              exact ⟨p, q, rfl, rfl, HT.1, HT.2, zp, zq, HBF⟩
          · go_simp
            obtain ⟨w114, hw⟩ : ∃ W, World.alloc w104 (.cells eff0 tEff) = W := ⟨_, rfl⟩
            rw [hw]
            obtain ⟨hk, hb, hbz⟩ := alloc_here hw
            obtain ⟨p, hp1⟩ : ∃ p, w104.heap.size = p := ⟨_, rfl⟩
            rw [hp1]
            have HK1 := Lib.hid hk
            rw [hp1] at HK1
            have hp1a := Nat.le_of_eq hp1
            have hp1b := Nat.le_of_eq hp1.symm
            replace hbz := Nat.le_of_eq hbz.symm
            clear hp1
            replace HK2 := Lib.hid ((hb.block _ (Array.getElem?_eq_some_iff.1 HK2.out).1).trans HK2.out)
            have HB114 := Lib.hid (HB104.out.trans (hb.mono HB104.out.size))
            clear hk hb hw
            refine hK.out _ _ (fun _ => HS6.out _ HB114.out) (fun hHeld => ?_)
            replace hHeld := hHeld (by decide)
            clear hK K
            try simp only [Act.put, zA, zB, zC]
            refine wpAnyZ_oneL (i := 2) (by kernel_rfl) rfl (fun K hK => ?_)
            go_simp
            go_at_call 13
            refine (EX1.out _ HB114.out).mono ?_
            rintro e w115 ⟨u1, rfl, hf, hb⟩
            have hbz := hb.size
            replace HK1 := Lib.hid ((hb.block _ (Array.getElem?_eq_some_iff.1 HK1.out).1).trans HK1.out)
            replace HK2 := Lib.hid ((hb.block _ (Array.getElem?_eq_some_iff.1 HK2.out).1).trans HK2.out)
            have HF1 := Lib.hid hf.lt
            have HB115 := Lib.hid (HB114.out.trans (hb.mono HB114.out.size))
            clear hf hb
            refine hK.out _ _ (fun _ => HS6.out _ HB115.out) (fun hHeld => ?_)
            replace hHeld := hHeld (by decide)
            clear hK K
            try simp only [Act.put, zA, zB, zC]
            refine wpAnyZ_oneL (i := 5) (by kernel_rfl) rfl (fun K hK => ?_)
            go_simp
            go_at_call 13
            refine (EX2.out _ HB115.out).mono ?_
            rintro e w116 ⟨u2, rfl, hf, hb⟩
            have hbz := hb.size
            replace HF1 := Lib.hid (HF1.out.below hb)
            replace HK1 := Lib.hid ((hb.block _ (Array.getElem?_eq_some_iff.1 HK1.out).1).trans HK1.out)
            replace HK2 := Lib.hid ((hb.block _ (Array.getElem?_eq_some_iff.1 HK2.out).1).trans HK2.out)
            have HF2 := Lib.hid hf.lt
            have HB116 := Lib.hid (HB115.out.trans (hb.mono HB115.out.size))
            clear hf hb
            refine hK.out _ _ (fun _ => HS6.out _ HB116.out) (fun hHeld => ?_)
            replace hHeld := hHeld (by decide)
            clear hK K
            try simp only [Act.put, zA, zB, zC]
            have zb := HB60.out.size
            have hpq : p ≠ q := by omega
            have zp : w6.heap.size ≤ p := by omega
            have zq : w6.heap.size ≤ q := by omega
            replace HF1 := Lib.hid (HF1.out.mono (B' := fun b => b ≠ p ∧ b ≠ q) (fun b hb => ⟨by omega, by omega⟩))
            replace HF2 := Lib.hid (HF2.out.mono (B' := fun b => b ≠ p ∧ b ≠ q) (fun b hb => ⟨by omega, by omega⟩))
            obtain ⟨x1, rfl, n1, o1⟩ := HF1.out.cells
            obtain ⟨x2, rfl, n2, o2⟩ := HF2.out.cells
            refine wpAnyZ_oneL (i := 8) (by kernel_rfl) rfl (fun K hK => ?_)
            rw [if_pos (by rfl)]
            refine wp_store_rowM tEff (.tmp 6) (.tmp 23) rfl p rfl tEff eff0 HK1.out (.agg x1) rfl (by kernel_rfl) n1 o1 ?_
            intro w117 hA
            refine hK.out _ _ (fun _ => HS6.out _ (HB116.out.trans (hA.below zp))) (fun hHeld => ?_)
            replace hHeld := hHeld (by decide)
            clear hK K
            try simp only [Act.put]
            refine wpAnyZ_oneL (i := 9) (by kernel_rfl) rfl (fun K hK => ?_)
            rw [if_pos (by rfl)]
            refine wp_store_rowM tEff (.tmp 7) (.tmp 26) rfl q rfl tEff eff0 ((hA.block q (fun e => hpq e.symm)).trans HK2.out) (.agg x2) rfl (by kernel_rfl) n2 o2 ?_
            intro w118 hB
            have HT := two_effs HF1.out HF2.out (fun _ h => h) (fun _ h => h) hpq hA hB
            have HBF := (HB116.out.trans (hA.below zp)).trans (hB.below zq)
            refine hK.out _ _ (fun _ => HS6.out _ HBF) (fun hHeld => ?_)
            replace hHeld := hHeld (by decide)
            clear hK K
            try simp only [Act.put]
            refine wpAnyZ_done (by kernel_rfl) ?_ _
            clear hHeld
            as_aux_lemma =>
            go_wp2_with fail
            go_meet
            exact ⟨p, q, rfl, rfl, HT.1, HT.2, zp, zq, HBF⟩
      case rest =>
        obtain ⟨p, q, rfl, rfl, he1, he2, zp, zq, hbc⟩ := hcut
        obtain ⟨xe, hkp, iu, ou, tu, su, lE, he, el, f1, f2, f3, f4⟩ := he1
        injection he with he
        subst he
        obtain ⟨xf, hkq, iv, ov, tv, sv, lF, he, fl, g1, g2, g3, g4⟩ := he2
        injection he with he
        subst he
        obtain ⟨E1, E2, EI, EO, ET, EC, EL, EM, ES⟩ := E
        obtain ⟨F1, F2, FI, FO, FT, FC, FL, FM, FS⟩ := F
        dsimp only at hkp hkq el fl f1 f2 f3 f4 g1 g2 g3 g4
        obtain ⟨aE1, cE1, rfl⟩ := f1.form
        obtain ⟨aE2, cE2, rfl⟩ := f2.form
        obtain ⟨aE3, cE3, rfl⟩ := f3.form
        obtain ⟨aE4, cE4, rfl⟩ := f4.form
        obtain ⟨aF1, cF1, rfl⟩ := g1.form
        obtain ⟨aF2, cF2, rfl⟩ := g2.form
        obtain ⟨aF3, cF3, rfl⟩ := g3.form
        obtain ⟨aF4, cF4, rfl⟩ := g4.form
        have HBC := Lib.hid hbc
        have HGE : Hid (∀ W, Below wc.heap.size wc W → W.cell? ⟨p, 0, none⟩ = some (.int .i64 E1) ∧ W.cell? ⟨p, 1, none⟩ = some (.int .i64 E2) ∧ W.cell? ⟨p, 2, none⟩ = some (.slice aE1 EI.length cE1) ∧ W.cell? ⟨p, 3, none⟩ = some (.slice aE2 EO.length cE2) ∧ W.cell? ⟨p, 4, none⟩ = some (.slice aE3 ET.length cE3) ∧ W.cell? ⟨p, 5, none⟩ = some (.string EC) ∧ W.cell? ⟨p, 6, none⟩ = some (.string lE) ∧ W.cell? ⟨p, 7, none⟩ = some (.int .i64 EM) ∧ W.cell? ⟨p, 8, none⟩ = some (.slice aE4 ES.length cE4)) := fun W hb => by
          have k := (hb.block _ (Array.getElem?_eq_some_iff.1 hkp).1).trans hkp
          exact ⟨cell_of_blk k 0, cell_of_blk k 1, cell_of_blk k 2, cell_of_blk k 3, cell_of_blk k 4, cell_of_blk k 5, cell_of_blk k 6, cell_of_blk k 7, cell_of_blk k 8⟩
        have HGF : Hid (∀ W, Below wc.heap.size wc W → W.cell? ⟨q, 0, none⟩ = some (.int .i64 F1) ∧ W.cell? ⟨q, 1, none⟩ = some (.int .i64 F2) ∧ W.cell? ⟨q, 2, none⟩ = some (.slice aF1 FI.length cF1) ∧ W.cell? ⟨q, 3, none⟩ = some (.slice aF2 FO.length cF2) ∧ W.cell? ⟨q, 4, none⟩ = some (.slice aF3 FT.length cF3) ∧ W.cell? ⟨q, 5, none⟩ = some (.string FC) ∧ W.cell? ⟨q, 6, none⟩ = some (.string lF) ∧ W.cell? ⟨q, 7, none⟩ = some (.int .i64 FM) ∧ W.cell? ⟨q, 8, none⟩ = some (.slice aF4 FS.length cF4)) := fun W hb => by
          have k := (hb.block _ (Array.getElem?_eq_some_iff.1 hkq).1).trans hkq
          exact ⟨cell_of_blk k 0, cell_of_blk k 1, cell_of_blk k 2, cell_of_blk k 3, cell_of_blk k 4, cell_of_blk k 5, cell_of_blk k 6, cell_of_blk k 7, cell_of_blk k 8⟩
        have HF1 := Lib.hid f1
        have HF2 := Lib.hid f2
        have HF3 := Lib.hid f3
        have HG1 := Lib.hid g1
        have HG2 := Lib.hid g2
        have HG3 := Lib.hid g3
        have HG4 := Lib.hid g4
        have HEL := Lib.hid el
        have HFL := Lib.hid fl
        have LV6 : Hid (∀ W, Below wc.heap.size wc W → Calls Tryz.prog 11 #[] W fun e w' => e = .returned (.bool true) ∧ Below W.heap.size W w') := fun W hb => LV.out W (HB2.out.trans ((HB6.out.mono (by omega)).trans ((HBC.out.mono (by omega)).trans (hb.mono (by have := HBC.out.size; omega)))))
        clear LV f1 f2 f3 f4 g1 g2 g3 g4 el fl hbc hkp hkq HS6 EX1 EX2
        have HCC : Hid (Below wc.heap.size wc wc) := Below.refl _ _
        have HBW : Hid (Below w.heap.size w wc) := HB2.out.trans ((HB6.out.mono (by omega)).trans (HBC.out.mono (by omega)))
        have zbc := HBC.out.size
        have zsl : FS.length ≤ 70 := Nat.le_trans XB2.out.sl z70
        clear HB6 HBC HB2 HR2 HV1 zp zq zg z6 z4
        obtain ⟨e0, e1, e2, e3, e4, e5, e6, e7, e8⟩ := HGF.out _ HCC.out
        go_wp2_with fail
        clear e0 e1 e2 e3 e4 e5 e6 e7 e8
        go_loopg [8, 9] FS.length (CvRel FS.length wc)
        case atStart => exact ⟨0, rfl, Nat.zero_le _, rfl, Below.refl _ _⟩
        case round =>
          obtain ⟨i, rfl, hi, rfl, hbel⟩ := hrel
          have HB := Lib.hid hbel
          obtain ⟨e0, e1, e2, e3, e4, e5, e6, e7, e8⟩ := HGF.out wr hbel
          have hzr := hbel.size
          clear hbel
          by_cases hlt : i < FS.length
          · obtain ⟨bl, off, cs, rfl, _, hbl, hc, hR⟩ := (HG4.out.below HB.out).at hlt
            have hke := HSK.out _ (List.getElem_mem hlt)
            have hksz := BK2.out.2 _ (List.getElem_mem hlt)
            try dsimp only at hke hksz
            rw [hke] at hR
            generalize FS[i].key = key at *
            have hcs : cs = [.string ⟨#[]⟩, .int .i64 0, .string ⟨#[]⟩, .string key, .int .u64 (memoF key : Nat), .int .i64 (sizeF (memoF key)), .int .i64 0, .int .i64 0] := hR
            subst hcs
            have HC8 : Hid (∀ W, Below wr.heap.size wr W → W.cell? ⟨bl, off + i * 8, none⟩ = some (.string ⟨#[]⟩) ∧ W.cell? ⟨bl, off + i * 8 + 1, none⟩ = some (.int .i64 0) ∧ W.cell? ⟨bl, off + i * 8 + 2, none⟩ = some (.string ⟨#[]⟩) ∧ W.cell? ⟨bl, off + i * 8 + 3, none⟩ = some (.string key) ∧ W.cell? ⟨bl, off + i * 8 + 4, none⟩ = some (.int .u64 (memoF key : Nat)) ∧ W.cell? ⟨bl, off + i * 8 + 5, none⟩ = some (.int .i64 (sizeF (memoF key))) ∧ W.cell? ⟨bl, off + i * 8 + 6, none⟩ = some (.int .i64 0) ∧ W.cell? ⟨bl, off + i * 8 + 7, none⟩ = some (.int .i64 0) ∧ W.cell? ⟨q, 8, none⟩ = some (.slice (some ⟨bl, off, none⟩) FS.length cF4)) := fun W hb => by
              have k : ∀ (t : Nat) u, [Value.string ⟨#[]⟩, .int .i64 0, .string ⟨#[]⟩, .string key, .int .u64 (memoF key : Nat), .int .i64 (sizeF (memoF key)), .int .i64 0, .int .i64 0][t]? = some u → W.cell? ⟨bl, off + i * 8 + t, none⟩ = some u := fun t u hu => (hb.cell (p := ⟨bl, off + i * 8 + t, none⟩) hbl).trans (hc t u hu)
              exact ⟨k 0 _ rfl, k 1 _ rfl, k 2 _ rfl, k 3 _ rfl, k 4 _ rfl, k 5 _ rfl, k 6 _ rfl, k 7 _ rfl, (HGF.out W (HB.out.trans (hb.mono HB.out.size))).2.2.2.2.2.2.2.2⟩
            have hii : (i : Int) < (FS.length : Int) := by omega
            have HKS := Lib.hid hksz
            have MM := Lib.hid (memo_any key (by omega) wr)
            have SZ : Hid (∀ W, Calls Tryz.prog 22 #[.int .u64 (memoF key : Nat)] W fun e w' => e = .returned (.int .i64 (sizeF (memoF key))) ∧ w' = W) := fun W => size_any _ W
            clear hc hR hke hksz
            generalize memoF key = d at *
            generalize sizeF d = z at *
            have q3 := (HC8.out wr (Below.refl _ _)).2.2.2.1
            clear HSK HCP LV6 HKS
            go_wp2_with fail
            refine MM.out.mono ?_
            rintro e w8 ⟨rfl, hb8⟩
            have HB8 := Lib.hid hb8
            clear hb8 MM q3 e0 e1 e2 e3 e4 e5 e6 e7 e8
            go_upto_region 10 with fail
            have HDR : Hid (Below wr.heap.size wr w8.drew) := HB8.out.drew
            refine wp_region_Z (S := fun W' : World => W'.cell? ⟨bl, off + i * 8, none⟩ = some (.string ⟨#[]⟩) ∧ W'.cell? ⟨bl, off + i * 8 + 1, none⟩ = some (.int .i64 0) ∧ W'.cell? ⟨bl, off + i * 8 + 2, none⟩ = some (.string ⟨#[]⟩) ∧ W'.cell? ⟨bl, off + i * 8 + 3, none⟩ = some (.string key) ∧ W'.cell? ⟨bl, off + i * 8 + 4, none⟩ = some (.int .u64 (d : Nat)) ∧ W'.cell? ⟨bl, off + i * 8 + 5, none⟩ = some (.int .i64 z) ∧ W'.cell? ⟨bl, off + i * 8 + 6, none⟩ = some (.int .i64 0) ∧ W'.cell? ⟨bl, off + i * 8 + 7, none⟩ = some (.int .i64 0) ∧ W'.cell? ⟨q, 8, none⟩ = some (.slice (some ⟨bl, off, none⟩) FS.length cF4)) 16 (by kernel_rfl) (HC8.out _ HDR.out) (fun hHeld => ?_)
            refine ztk 0 ?_
            try simp only [Act.put, zA, zB, zC]
            refine ztk 1 ?_
            try simp only [Act.put, zA, zB, zC]
            refine ztk 2 ?_
            try simp only [Act.put, zA, zB, zC]
            refine ztk 3 ?_
            try simp only [Act.put, zA, zB, zC]
            refine ztk 4 ?_
            try simp only [Act.put, zA, zB, zC]
            refine ztk 5 ?_
            try simp only [Act.put, zA, zB, zC]
            refine ztk 6 ?_
            try simp only [Act.put, zA, zB, zC]
            refine ztk 7 ?_
            try simp only [Act.put, zA, zB, zC]
            refine ztk 8 ?_
            try simp only [Act.put, zA, zB, zC]
            refine ztk 9 ?_
            try simp only [Act.put, zA, zB, zC]
            refine ztk 10 ?_
            try simp only [Act.put, zA, zB, zC]
            refine ztk 11 ?_
            try simp only [Act.put, zA, zB, zC]
            refine ztk 12 ?_
            try simp only [Act.put, zA, zB, zC]
            refine wpAnyZ_oneL (i := 13) (by kernel_rfl) rfl (fun K hK => ?_)
            go_simp
            go_at_call 22
            refine (SZ.out _).mono ?_
            rintro e w9 ⟨rfl, hw9⟩
            rw [hw9]
            clear hw9 w9
            refine hK.out _ _ (fun _ => HC8.out _ HDR.out) (fun hHeld => ?_)
            replace hHeld := hHeld (by decide)
            clear hK K
            try simp only [Act.put, zA, zB, zC]
            refine ztk 14 ?_
            try simp only [Act.put, zA, zB, zC]
            refine wpAnyZ_takeD (i := 15) (v := .bool false) rfl (by kernel_rfl) (by kernel_rfl) (by kernel_rfl) (by kernel_rfl) (fun _ _ _ h => h) (Or.inl ⟨by rfl, fun w _ => exec_cmp .neq tEnt tEnt (.tmp 45) (.tmp 55) rfl (entV key d z) (entV key d z) rfl rfl Tryz.guard_ent _ (Tryz.neq_ent w key d z)⟩) (by assumption) ?_
            try simp only [Act.put, zA, zB, zC]
            refine wpAnyZ_done (by kernel_rfl) ?_ _
            clear hHeld
            have HBN : Hid (Below wc.heap.size wc w8.drew) := HB.out.trans (HDR.out.mono HB.out.size)
            as_aux_lemma =>
            go_wp2_with fail
            go_roundg (FS.length - (i + 1))
            case measure => omega
            case rel => exact ⟨i + 1, by go_num, by omega, rfl, HBN.out⟩
          · have hii : ¬ (i : Int) < (FS.length : Int) := by omega
            by_cases hs : F1 = 1
            · have HCQ := Lib.hid (HCP.out hs)
              have HEB : Hid (Below w.heap.size w wr) := HBW.out.trans (HB.out.mono (by have := HBW.out.size; omega))
              obtain ⟨a1, a2, a3, a4, a5, a6, a7, a8, a9, a10⟩ := HCQ.out
              try dsimp only at a1 a2 a3 a4 a5 a6 a7 a8 a9 a10
              subst hs a1 a2 a3 a5 a6 a7 a8 a9
              have hlg : lE = lF := ByteArray.ext (Array.ext' (HEL.out.trans HFL.out.symm))
              subst hlg
              have hsv : (ES.length : Int) ≤ (FS.length : Int) := by omega
              have z1 := XB1.out.il
              have z2 := XB1.out.ol
              have z3 := BK1.out.1
              try dsimp only at z1 z2 z3
              have RS := Lib.hid (results_same 1 0 EC EI EO ET _ _ _ _ _ _ _ _ (by omega) (by omega) (by omega) wr (HF1.out.below HB.out) (HF2.out.below HB.out) (HF3.out.below HB.out) (HG1.out.below HB.out) (HG2.out.below HB.out) (HG3.out.below HB.out))
              unfold resC at RS
              obtain ⟨d0, d1, d2, d3, d4, d5, d6, d7, d8⟩ := HGE.out wr HB.out
              clear HCQ HCP HEL HFL HSK BK1 BK2 XB1 XB2 HF1 HF2 HF3 HG1 HG2 HG3 HG4 z1 z2 z3
              as_aux_lemma =>
              go_wp2_with fail
              refine RS.out.mono ?_
              rintro e w9 ⟨rfl, hb9⟩
              have HB9 : Hid (Below wc.heap.size wc w9) := HB.out.trans (hb9.mono HB.out.size)
              have HE9 : Hid (Below w.heap.size w w9) := HEB.out.trans (hb9.mono (by have := HEB.out.size; omega))
              clear hb9 RS d0 d1 d2 d3 d4 d5 d6 d7 d8 e0 e1 e2 e3 e4 e5 e6 e7 e8
              obtain ⟨d0, d1, d2, d3, d4, d5, d6, d7, d8⟩ := HGE.out w9 HB9.out
              obtain ⟨e0, e1, e2, e3, e4, e5, e6, e7, e8⟩ := HGF.out w9 HB9.out
              go_wp2_with fail
              refine (LV6.out _ HB9.out).mono ?_
              rintro e w10 ⟨rfl, hb10⟩
              have HB10 : Hid (Below w.heap.size w w10) := HE9.out.trans (hb10.mono HE9.out.size)
              clear hb10 d0 d1 d2 d3 d4 d5 d6 d7 d8 e0 e1 e2 e3 e4 e5 e6 e7 e8
              go_wp2_with fail
              go_ret
              exact ⟨rfl, HB10.out⟩
            · have ht : (F1 != 1) = true := by simp [hs]
              have HEB : Hid (Below w.heap.size w wr) := HBW.out.trans (HB.out.mono (by have := HBW.out.size; omega))
              clear HCP
              as_aux_lemma =>
              go_wp2_with fail
              refine (LV6.out _ HB.out).mono ?_
              rintro e w10 ⟨rfl, hb10⟩
              have HB10 : Hid (Below w.heap.size w w10) := HEB.out.trans (hb10.mono HEB.out.size)
              clear hb10 e0 e1 e2 e3 e4 e5 e6 e7 e8
              go_wp2_with fail
              go_ret
              exact ⟨rfl, HB10.out⟩
end Go.Proofs.YtghahghbahcpfaaGreatDoor
